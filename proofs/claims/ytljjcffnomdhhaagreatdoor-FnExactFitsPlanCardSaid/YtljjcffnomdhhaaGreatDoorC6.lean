/- Walks: the number of the next generation. Plain theorems. -/
import Derived.Test.YtljjcffnomdhhaaGreatDoorC5
import Derived.Shelf.Spec.SlicesInsertGrow
import Derived.Shelf.SlGeneric
set_option linter.unusedVariables false
set_option linter.unusedSimpArgs false
namespace Go.Proofs.YtljjcffnomdhhaaGreatDoor
open Go Go.Fw
set_option maxRecDepth 100000
variable {Ω : Opq}
theorem mxI (hΩ : Ω = std) {a n b c : Int} (h : Ω.ar .add .i64 n 1 = b) (hc : c = if a < b then b else a) : Ω.mx a (Ω.ar .add .i64 n 1) = c := by
  subst hΩ
  rw [h, hc]
  rfl
theorem c_next (x : Dsk) (hx : x.f.length ≤ 1048576) (hp : ∀ f ∈ x.f, f.p.length ≤ 1048576) : PCtr PP n_impl_Disk_next [x.enc false false] (i64 (nxtF x.f)) := by
  obtain ⟨Ω, hΩ⟩ : ∃ Ω, Ω = std := ⟨_, rfl⟩
  have hcg := c_gens x hx hp
  have hge : ∀ n ∈ gensF x.f, 1 ≤ n ∧ n ≤ 999999 := fun n hn => gensF_ge hn
  have hgl := gensF_len x.f
  have r1 := roF_I (gensF x.f)
  unfold nxtF
  generalize gensF x.f = g at *
  obtain ⟨B, hB⟩ : ∃ B : Nat → Int, ∀ i, B i = nxtG (g.take i) := ⟨_, fun _ => rfl⟩
  have hB0 : B 0 = 1 := by rw [hB]; rfl
  have hBn : nxtG g = B g.length := by rw [hB, List.take_length]
  have hBs : ∀ i n, g[i]? = some n → B (i + 1) = if B i < n + 1 then n + 1 else B i := fun i n h => by
    rw [hB, hB, List.take_add_one, h]
    exact nxtG_app _ _
  rw [hBn]
  clear hB hBn
  obtain ⟨q, hq⟩ : ∃ q, q = g.map i64 := ⟨_, rfl⟩
  have hfz : frz (.sl true 1 q) = .sl false 1 q := by rw [hq, frz_sl, List.map_map]; rfl
  have hql : q.length = g.length := by rw [hq, List.length_map]
  rw [← hq] at hcg r1
  unfold Dsk.enc at *
  generalize x.f.map (Fil.enc false) = xs at *
  generalize x.bg = v1 at *
  generalize x.wr = v2 at *
  generalize x.st = v3 at *
  generalize x.dn = v4 at *
  have htab := tab
  have hmo := hmo
  refine PCtr.walk tab hΩ fn_impl_Disk_next rfl ?_
  generalize PP = P at *
  cbv
  refine call_pf hΩ 4 hcg rfl (fits _) r1 hfz rfl ?_
  cbv
  refine loopX htab hΩ (fun i : Nat => ⟨[(3, i64 (B i)), (7, .sl false 1 q), (8, i64 (Ω.int (Ω.len q))), (9, i64 (Ω.int i))], 19, []⟩) (fun i => i ≤ g.length) (fun i => g.length - i) 0 (Nat.zero_le _)
    (((Sbs.unlk (r := 0) rfl rfl).trans (Sbs.thaw0 (r := 0) rfl rfl rfl)).trans ((Sbs.cut 0 rfl).trans (Sbs.mk rfl rfl ⟨congrArg i64 hB0.symm, rfl, rfl, zeroI hΩ, trivial⟩))) (fun i hi => ?_)
  cbv
  refine br (fun h => ?_) (fun h => ?_) <;> cbv
  · replace h := ltI hΩ h
    obtain ⟨n, hn⟩ := at_of (cs := g) (by omega : i < _)
    have hs := hBs i n hn
    have hb := hge n (List.mem_of_getElem? hn)
    refine ⟨⟨nnI hΩ⟩, _, rdI hΩ hq hn, ?_⟩
    cbv
    exact ⟨i + 1, by omega, by omega, (Sbs.cut 0 rfl).trans (Sbs.mk rfl rfl ⟨congrArg i64 (mxI hΩ (addT hΩ rfl (by omega) (by omega)) hs), rfl, rfl, incI hΩ (by omega), trivial⟩)⟩
  · replace h := geI hΩ h
    obtain rfl : i = g.length := by omega
    exact .same
theorem nxtG_end {g : List Int} (h : g.Pairwise (· < ·)) (h1 : ∀ n ∈ g, 1 ≤ n) (hn : g ≠ []) : ∃ n, g[g.length - 1]? = some n ∧ nxtG g = n + 1 ∧ n ∈ g := by
  have e := List.dropLast_concat_getLast hn
  refine ⟨g.getLast hn, by rw [← List.getLast?_eq_getElem?, List.getLast?_eq_some_getLast hn], ?_, List.getLast_mem hn⟩
  have h' := h
  rw [← e] at h'
  have := nxtG_last h' (h1 _ (List.getLast_mem hn))
  rw [e] at this
  exact this
theorem c_l8Next (x : Dsk) (hx : x.f.length ≤ 1048576) (hp : ∀ f ∈ x.f, f.p.length ≤ 1048576) (ho : ordF x.f) : PCtr PP n_spec_l8Next [x.see] (i64 (nxtF x.f)) := by
  obtain ⟨Ω, hΩ⟩ : ∃ Ω, Ω = std := ⟨_, rfl⟩
  have hcg := c_l8Gens x hx hp
  have hge : ∀ n ∈ gensF x.f, 1 ≤ n ∧ n ≤ 999999 := fun n hn => gensF_ge hn
  have hup := gensF_up ho
  have hgl := gensF_len x.f
  have r1 := roF_I (gensF x.f)
  unfold nxtF
  generalize gensF x.f = g at *
  have hend : g ≠ [] → _ := nxtG_end hup (fun n hn => (hge n hn).1)
  have hnil : g = [] → nxtG g = 1 := fun h => by rw [h]; rfl
  generalize nxtG g = B at *
  obtain ⟨q, hq⟩ : ∃ q, q = g.map i64 := ⟨_, rfl⟩
  have hfz : frz (.sl true 1 q) = .sl false 1 q := by rw [hq, frz_sl, List.map_map]; rfl
  have hql : q.length = g.length := by rw [hq, List.length_map]
  rw [← hq] at hcg r1
  unfold Dsk.see at *
  generalize x.f.map (Fil.enc false) = xs at *
  generalize x.bg = v1 at *
  generalize x.wr = v2 at *
  generalize x.st = v3 at *
  generalize x.dn = v4 at *
  have htab := tab
  have hmo := hmo
  refine PCtr.walk tab hΩ fn_spec_l8Next rfl ?_
  generalize PP = P at *
  cbv
  refine call_pf hΩ 4 hcg rfl (fits _) r1 hfz rfl ?_
  cbv
  refine br (fun h => ?_) (fun h => ?_) <;> cbv
  · have h0 : g = [] := by
      subst hΩ
      have h : ((q.length : Nat) : Int) = 0 := eq_t h
      exact List.eq_nil_of_length_eq_zero (by omega)
    exact .of (congrArg i64 (hnil h0).symm)
  · have h0 : g ≠ [] := fun h0 => by
      subst hΩ
      have h : ((q.length : Nat) : Int) ≠ 0 := eq_f h
      rw [h0] at hql
      simp at hql
      exact h (by rw [hql]; rfl)
    obtain ⟨n, h1, h2, h3⟩ := hend h0
    have hb := hge n h3
    have hpos : 0 < g.length := List.length_pos_iff.2 h0
    have hs : Ω.ar .sub .i64 (Ω.int (Ω.len q)) 1 = ((g.length - 1 : Nat) : Int) := by
      subst hΩ
      have e : ((q.length : Nat) : Int) - 1 = ((g.length - 1 : Nat) : Int) := by omega
      exact (congrArg IntKind.i64.wrap e).trans (wrap64 (by omega) (by omega))
    refine ⟨⟨by show 0 ≤ Ω.ar .sub .i64 (Ω.int (Ω.len q)) 1; rw [hs]; exact Int.natCast_nonneg _⟩, i64 n, ?_, ?_⟩
    · show q[(Ω.ar .sub .i64 (Ω.int (Ω.len q)) 1).toNat]? = _
      rw [hs, Int.toNat_natCast, hq, List.getElem?_map, h1]; rfl
    cbv
    exact .of (congrArg i64 ((addT hΩ rfl (by omega) (by omega)).trans h2.symm))
end Go.Proofs.YtljjcffnomdhhaaGreatDoor

/- Walks: disks copied. Plain theorems. -/
set_option linter.unusedVariables false
set_option linter.unusedSimpArgs false
namespace Go.Proofs.YtljjcffnomdhhaaGreatDoor
open Go Go.Fw
set_option maxRecDepth 100000
theorem noByte (l : List UInt8) : (∀ y ∈ l.map byteA, noOwn y = true) ∧ (∀ c ∈ flat (l.map byteA), okCell c = true) := by
  refine ⟨fun y hy => ?_, fun y hy => ?_⟩
  · obtain ⟨c, _, rfl⟩ := List.mem_map.1 hy; rfl
  · rw [flat_bytes] at hy
    obtain ⟨c, _, rfl⟩ := List.mem_map.1 hy; rfl
theorem c_CloneB (s : List UInt8) (hs : s.length ≤ 1048576) : PCtr PP n_slices_Clone_L_byte_byte [.sl false 1 (s.map byteA)] (.sl true 1 (s.map byteA)) := by
  obtain ⟨Ω, hΩ⟩ : ∃ Ω, Ω = std := ⟨_, rfl⟩
  obtain ⟨xs, hxs⟩ : ∃ xs, xs = s.map byteA := ⟨_, rfl⟩
  have hlen : xs.length = s.length := by rw [hxs, List.length_map]
  have hno := noByte s
  rw [← hxs] at hno ⊢
  have htab := tab
  refine PCtr.walk tab hΩ fn_slices_Clone_L_byte_byte rfl ?_
  generalize PP = P at *
  cbv
  intro b hb
  refine br (fun g => ?_) (fun g => ?_) <;> cbv
  · exact ⟨1, hb g⟩
  refine ⟨⟨hno.1, hno.2, ?_, ?_⟩, ⟨rfl, ?_⟩, .of ?_⟩
  · show (0 + xs.length) * 1 ≤ 140737488355328
    omega
  · show 0 + xs.length ≤ 9223372036854775807
    omega
  · subst hΩ; show 0 + xs.length ≤ (List.take 0 [] ++ xs).length; simp
  · subst hΩ; show A.sl true 1 ((List.take 0 [] ++ xs).take (0 + xs.length)) = _; rw [List.take_of_length_le (by simp)]; rfl
end Go.Proofs.YtljjcffnomdhhaaGreatDoor

/- Walks: a disk copied. Plain theorems. -/
set_option linter.unusedVariables false
set_option linter.unusedSimpArgs false
namespace Go.Proofs.YtljjcffnomdhhaaGreatDoor
open Go Go.Fw
set_option maxRecDepth 100000
theorem all1 {x : A} (h : noOwn x = true) : ∀ y ∈ [x], noOwn y = true := fun y hy => by rw [List.mem_singleton.1 hy]; exact h
theorem c_copied (x : Dsk) (hx : x.f.length ≤ 1048576) (hd : ∀ f ∈ x.f, f.d.length ≤ 1048576) : PCtr PP n_impl_Disk_copied [x.enc false false] (x.enc true false) := by
  obtain ⟨Ω, hΩ⟩ : ∃ Ω, Ω = std := ⟨_, rfl⟩
  obtain ⟨F, hF⟩ : ∃ F : Nat → List A, ∀ i, F i = (x.f.take i).map (Fil.enc false) := ⟨_, fun _ => rfl⟩
  have hFl : ∀ i, (F i).length ≤ 1048576 := fun i => by rw [hF, List.length_map, List.length_take]; omega
  have hFs : ∀ i f, x.f[i]? = some f → F (i + 1) = F i ++ [f.enc false] := fun i f h => by rw [hF, hF, List.take_add_one, h, List.map_append]; rfl
  have hap : ∀ i f, x.f[i]? = some f → Ω.app (Ω.take (Ω.len (F i)) (F i)) [f.enc false] = F (i + 1) := fun i f h => by rw [takeAll hΩ, hFs i f h]; subst hΩ; rfl
  have hpl : ∀ i f, x.f[i]? = some f → Ω.plus (Ω.len (F i)) (Ω.len [f.enc false]) = Ω.len (F (i + 1)) := fun i f h => by rw [hFs i f h]; subst hΩ; exact (List.length_append).symm
  have hF0 : F 0 = [] := by rw [hF]; rfl
  have hFn : F x.f.length = x.f.map (Fil.enc false) := by rw [hF, List.take_length]
  clear hF
  obtain ⟨xs, hxs⟩ : ∃ xs, xs = x.f.map (Fil.enc false) := ⟨_, rfl⟩
  have hxl : xs.length = x.f.length := by rw [hxs, List.length_map]
  have hcl := fun (f : Fil) (h : f ∈ x.f) => c_CloneB f.d (hd f h)
  unfold Dsk.enc
  rw [← hxs] at hFn ⊢
  generalize x.bg = v1 at *
  generalize x.wr = v2 at *
  generalize x.st = v3 at *
  generalize x.dn = v4 at *
  generalize x.f = l at *
  have htab := tab
  have hmo := hmo
  refine PCtr.walk tab hΩ fn_impl_Disk_copied rfl ?_
  generalize PP = P at *
  cbv
  refine loopX htab hΩ (fun i : Nat => ⟨[(2, .pt 1 0 0), (3, .pt 2 0 0), (9, .sl false 2 xs), (10, i64 (Ω.int (Ω.len xs))), (11, i64 (Ω.int i))], 28,
    [some ⟨5, [.agg [.sl false 2 xs, i64 v1, i64 v2, i64 v3, boo v4]], true⟩, some ⟨5, [.agg [.nil, i64 0, i64 0, i64 0, boo false]], true⟩, some ⟨5, [.agg [.vw 3 0 (Ω.len (F i)), i64 v1, i64 v2, i64 v3, boo v4]], true⟩, some ⟨2, F i, false⟩]⟩)
    (fun i => i ≤ l.length) (fun i => l.length - i) 0 (Nat.zero_le _)
    (Sbs.trans (Sbs.nilCell (r := 2) (j := 0) (q := 0) (n := 2) rfl rfl rfl) (Sbs.mk rfl (by dsimp only; rw [hF0]; subst hΩ; rfl) ⟨rfl, rfl, rfl, rfl, zeroI hΩ, trivial⟩)) (fun i hi => ?_)
  have hol := hFl i
  have hlo : Ω.len (F i) = (F i).length := by subst hΩ; rfl
  have hle : Ω.len (F i) ≤ (F i).length := by rw [hlo]; exact Nat.le_refl _
  cbv
  refine br (fun h => ?_) (fun h => ?_) <;> cbv
  · replace h := ltI hΩ h
    obtain ⟨f, hf⟩ := at_of (cs := l) (by omega : i < _)
    have hc := hcl f (List.mem_of_getElem? hf)
    have hap0 := hap i f hf
    have hpl0 := hpl i f hf
    have hfz : frz (.sl true 1 (f.d.map byteA)) = .sl false 1 (f.d.map byteA) := by rw [frz_sl, frz_bytes]
    have rB := roF_B f.d
    refine ⟨⟨nnI hΩ⟩, _, rdI hΩ hxs hf, ?_⟩
    unfold Fil.enc at hap0 hpl0 ⊢
    generalize f.d.map byteA = ds at *
    have hap1 : Ω.app (Ω.take (Ω.len (F i)) (F i)) (Ω.seg 0 (Ω.plus 0 1) [A.agg [str f.p, .sl false 1 ds]]) = F (i + 1) := by rw [← hap0]; subst hΩ; rfl
    have hpl1 : Ω.plus (Ω.len (F i)) 1 = Ω.len (F (i + 1)) := by rw [← hpl0]; subst hΩ; rfl
    generalize f.p = fp at *
    cbv
    refine ⟨VC.sub (VC_pl htab hΩ hmo (.qs [0, 2, 3, 4, 5] (.two 1 (.s 6 (.s 7 (.s 8 (.s 9 (.q 10 (.s 11 .fin)))))) 6 (.two 1 (.s 7 (.s 8 (.s 9 (.q 10 (.s 11 .fin))))) 7 (.two 1 (.s 8 (.s 9 (.q 10 (.s 11 .fin)))) 8 (.s 1 (.s 9 (.q 10 (.s 11 .fin)))))))) (by kernel_rfl) ?_)
      ((Sbs.unlk (r := 4) rfl rfl).trans (Sbs.thaw0 (r := 4) rfl rfl rfl))⟩
    cbv
    repeat' (first
      | (refine call_pf hΩ 4 hc rfl (fits _) rB hfz rfl ?_; cbv)
      | (refine And.intro ⟨rfl, okAll rfl, ?_, ?_⟩ ?_)
      | (refine And.intro ⟨Nat.le_refl _, all1 rfl, okAll rfl, ?_, ?_⟩ ?_)
      | (refine And.intro ?_ ?_))
    all_goals first
      | (show (Ω.len (F i) + 1) * 40 ≤ 140737488355328; omega)
      | (show Ω.len (F i) + 1 ≤ 9223372036854775807; omega)
      | exact ⟨i + 1, by omega, by omega, (Sbs.cut 4 rfl).trans (Sbs.mk rfl (by show [some (Row.mk 5 [A.agg [.sl false 2 xs, i64 v1, i64 v2, i64 v3, boo v4]] true), some (Row.mk 5 [A.agg [.nil, i64 0, i64 0, i64 0, boo false]] true), some (Row.mk 5 [A.agg [.vw 3 0 (Ω.plus (Ω.len (F i)) (Ω.len [A.agg [str fp, .sl false 1 ds]])), i64 v1, i64 v2, i64 v3, boo v4]] true), some (Row.mk 2 (Ω.app (Ω.take (Ω.len (F i)) (F i)) [A.agg [str fp, .sl false 1 ds]]) false)] = _; rw [hap0, hpl0]) ⟨rfl, rfl, rfl, rfl, incI hΩ (by omega), trivial⟩)⟩
      | exact ⟨i + 1, by omega, by omega, (Sbs.cut 4 rfl).trans (Sbs.mk rfl (by show [some (Row.mk 5 [A.agg [.sl false 2 xs, i64 v1, i64 v2, i64 v3, boo v4]] true), some (Row.mk 5 [A.agg [.nil, i64 0, i64 0, i64 0, boo false]] true), some (Row.mk 5 [A.agg [.vw 3 0 (Ω.plus (Ω.len (F i)) 1), i64 v1, i64 v2, i64 v3, boo v4]] true), some (Row.mk 2 (Ω.app (Ω.take (Ω.len (F i)) (F i)) (Ω.seg 0 (Ω.plus 0 1) [A.agg [str fp, .sl false 1 ds]])) false)] = _; rw [hap1, hpl1]) ⟨rfl, rfl, rfl, rfl, incI hΩ (by omega), trivial⟩)⟩
  · replace h := geI hΩ h
    obtain rfl : i = l.length := by omega
    exact ⟨⟨rfl, hle⟩, .of (by show A.agg [.sl true 2 (Ω.take (Ω.len (F l.length)) (F l.length)), i64 v1, i64 v2, i64 v3, boo v4] = _; rw [takeAll hΩ, hFn]; rfl)⟩
end Go.Proofs.YtljjcffnomdhhaaGreatDoor

/- Walks: a disk copied, by the reference. Plain theorems. -/
set_option linter.unusedVariables false
set_option linter.unusedSimpArgs false
namespace Go.Proofs.YtljjcffnomdhhaaGreatDoor
open Go Go.Fw
set_option maxRecDepth 100000
theorem c_l7CopyO (x : Dsk) (hx : x.f.length ≤ 1048576) (hd : ∀ f ∈ x.f, f.d.length ≤ 1048576) : PCtr PP n_spec_l7Copy [x.enc false false] (x.enc true true) := by
  obtain ⟨Ω, hΩ⟩ : ∃ Ω, Ω = std := ⟨_, rfl⟩
  obtain ⟨F, hF⟩ : ∃ F : Nat → List A, ∀ i, F i = (x.f.take i).map (Fil.enc true) := ⟨_, fun _ => rfl⟩
  have hFl : ∀ i, (F i).length ≤ 1048576 := fun i => by rw [hF, List.length_map, List.length_take]; omega
  have hFs : ∀ i f, x.f[i]? = some f → F (i + 1) = F i ++ [f.enc true] := fun i f h => by rw [hF, hF, List.take_add_one, h, List.map_append]; rfl
  have hap : ∀ i f, x.f[i]? = some f → Ω.app (Ω.take (Ω.len (F i)) (F i)) [f.enc true] = F (i + 1) := fun i f h => by rw [takeAll hΩ, hFs i f h]; subst hΩ; rfl
  have hpl : ∀ i f, x.f[i]? = some f → Ω.plus (Ω.len (F i)) (Ω.len [f.enc true]) = Ω.len (F (i + 1)) := fun i f h => by rw [hFs i f h]; subst hΩ; exact (List.length_append).symm
  have hF0 : F 0 = [] := by rw [hF]; rfl
  have hFn : F x.f.length = x.f.map (Fil.enc true) := by rw [hF, List.take_length]
  clear hF
  obtain ⟨xs, hxs⟩ : ∃ xs, xs = x.f.map (Fil.enc false) := ⟨_, rfl⟩
  have hxl : xs.length = x.f.length := by rw [hxs, List.length_map]
  unfold Dsk.enc
  rw [← hxs, ← hFn]
  generalize x.bg = v1 at *
  generalize x.wr = v2 at *
  generalize x.st = v3 at *
  generalize x.dn = v4 at *
  generalize x.f = l at *
  have htab := tab
  have hmo := hmo
  refine PCtr.walk tab hΩ fn_spec_l7Copy rfl ?_
  generalize PP = P at *
  cbv
  refine loopX htab hΩ (fun i : Nat => ⟨[(1, .rp [.sl false 2 xs, i64 v1, i64 v2, i64 v3, boo v4]), (2, .pt 1 0 0), (3, .pt 2 0 0), (4, i64 (Ω.int i))], 35,
    [none, some ⟨5, [.agg [.nil, i64 0, i64 0, i64 0, boo false]], true⟩, some ⟨5, [.agg [.vw 3 0 (Ω.len (F i)), i64 v1, i64 v2, i64 v3, boo v4]], true⟩, some ⟨2, F i, false⟩]⟩)
    (fun i => i ≤ l.length) (fun i => l.length - i) 0 (Nat.zero_le _)
    (((Sbs.unlk (r := 0) rfl rfl).trans (Sbs.thaw0 (r := 0) rfl rfl rfl)).trans (Sbs.trans (Sbs.nilCell (r := 2) (j := 0) (q := 0) (n := 2) rfl rfl rfl) (Sbs.mk rfl (by dsimp only; rw [hF0]; subst hΩ; rfl) ⟨rfl, rfl, rfl, zeroI hΩ, trivial⟩))) (fun i hi => ?_)
  have hol := hFl i
  have hlo : Ω.len (F i) = (F i).length := by subst hΩ; rfl
  have hle : Ω.len (F i) ≤ (F i).length := by rw [hlo]; exact Nat.le_refl _
  cbv
  refine br (fun h => ?_) (fun h => ?_) <;> cbv
  · replace h := ltI hΩ h
    obtain ⟨f, hf⟩ := at_of (cs := l) (by omega : i < _)
    have hap0 := hap i f hf
    have hpl0 := hpl i f hf
    have hfd := hd f (List.mem_of_getElem? hf)
    have hno := noByte f.d
    have hdl : (f.d.map byteA).length = f.d.length := List.length_map ..
    have hrd := rdI hΩ hxs hf
    unfold Fil.enc at hap0 hpl0 hrd
    generalize f.d.map byteA = ds at *
    generalize f.p = fp at *
    have hsg : Ω.plus 0 (Ω.len ds) ≤ (Ω.app (Ω.take 0 []) ds).length := by subst hΩ; show 0 + ds.length ≤ ([] ++ ds).length; simp
    have hse : Ω.take (Ω.plus 0 (Ω.len ds)) (Ω.app (Ω.take 0 []) ds) = ds := by subst hΩ; show (List.take 0 [] ++ ds).take (0 + ds.length) = ds; rw [List.take_of_length_le (by simp)]; rfl
    refine ⟨VC_pl htab hΩ hmo (.qs [0, 2, 3, 4, 5, 6, 7, 9, 10, 11, 12, 13, 14] (.two 1 (.s 8 (.s 15 (.s 16 (.s 17 (.s 18 (.q 19 (.s 20 .fin))))))) 8 (.two 1 (.s 15 (.s 16 (.s 17 (.s 18 (.q 19 (.s 20 .fin)))))) 15 (.two 1 (.s 16 (.s 17 (.s 18 (.q 19 (.s 20 .fin))))) 16 (.two 1 (.s 17 (.s 18 (.q 19 (.s 20 .fin)))) 17 (.s 1 (.s 18 (.q 19 (.s 20 .fin))))))))) (by kernel_rfl) ?_⟩
    cbv
    refine ⟨⟨nnI hΩ⟩, _, hrd, ?_⟩
    cbv
    refine ⟨⟨nnI hΩ⟩, _, hrd, ?_⟩
    cbv
    repeat' (first
      | (refine And.intro ⟨hno.1, hno.2, ?_, ?_⟩ ?_)
      | (refine And.intro ⟨rfl, okAll rfl, ?_, ?_⟩ ?_)
      | (refine And.intro ⟨Nat.le_refl _, all1 rfl, okAll rfl, ?_, ?_⟩ ?_)
      | (refine And.intro ?_ ?_))
    all_goals first
      | (show (0 + ds.length) * 1 ≤ 140737488355328; omega)
      | (show 0 + ds.length ≤ 9223372036854775807; omega)
      | exact ⟨⟨rfl, hsg⟩⟩
      | exact ⟨i + 1, by omega, by omega, (Sbs.cut 4 rfl).trans (Sbs.mk rfl (by show [none, some (Row.mk 5 [A.agg [.nil, i64 0, i64 0, i64 0, boo false]] true), some (Row.mk 5 [A.agg [.vw 3 0 (Ω.plus (Ω.len (F i)) (Ω.len [A.agg [str fp, .sl true 1 (Ω.take (Ω.plus 0 (Ω.len ds)) (Ω.app (Ω.take 0 []) ds))]])), i64 v1, i64 v2, i64 v3, boo v4]] true), some (Row.mk 2 (Ω.app (Ω.take (Ω.len (F i)) (F i)) [A.agg [str fp, .sl true 1 (Ω.take (Ω.plus 0 (Ω.len ds)) (Ω.app (Ω.take 0 []) ds))]]) false)] = _; rw [hse, hap0, hpl0]) ⟨rfl, rfl, rfl, incI hΩ (by omega), trivial⟩)⟩
      | (show (Ω.len (F i) + 1) * 40 ≤ 140737488355328; omega)
      | (show Ω.len (F i) + 1 ≤ 9223372036854775807; omega)
  · replace h := geI hΩ h
    obtain rfl : i = l.length := by omega
    exact ⟨⟨rfl, hle⟩, .of (by show A.agg [.sl true 2 (Ω.take (Ω.len (F l.length)) (F l.length)), i64 v1, i64 v2, i64 v3, boo v4] = _; rw [takeAll hΩ]; rfl)⟩
end Go.Proofs.YtljjcffnomdhhaaGreatDoor

/- What is held alone, its inner parts read only; a disk copied so. Plain theorems. -/
set_option linter.unusedVariables false
set_option linter.unusedSimpArgs false
namespace Go.Fw
theorem RelL.frz_ {w : World} {G G' : Nat → Prop} {xs : List A} {vs : List Value} {F : List Nat} (h : RelL w G xs vs F) (hG : ∀ b, G b → G' b) (hF : ∀ b ∈ F, G' b) : RelL w G' (xs.map Fw.frz) vs [] := by
  have h1 := (Rel.agg h).frz hG hF
  rw [frz_agg] at h1
  generalize hv : (Value.agg vs.toArray) = v at h1
  generalize hx : A.agg (xs.map Fw.frz) = y at h1
  cases h1 <;> try (cases hx; done)
  rename_i ys cs hl
  cases hx
  have : vs = cs := by simpa using hv
  rw [this]; exact hl
/-- A struct whose first part is a slice of its own: what lies in its elements told as read only. -/
theorem PCtr.frzIn {P : Program} {g n : Nat} {args ys zs : List A} (h : PCtr P g args (.agg (.sl true n ys :: zs))) (hz : zs.all noOwn = true) : PCtr P g args (.agg (.sl true n (ys.map Fw.frz) :: zs)) := by
  refine ⟨h.enter, fun w G vs hG hl => Calls.mono (h.run w G vs hG hl) ?_⟩
  rintro e w' ⟨v, F, rfl, hb, hnd, hlt, hr⟩
  generalize hx : A.agg (.sl true n ys :: zs) = y at hr
  cases hr <;> try (cases hx; done)
  rename_i xs cs hl
  cases hx
  cases hl with
  | cons h1 h2 =>
    rename_i v1 F1 vs1 Fs
    have e0 : Fs = [] := h2.noOwn hz
    subst e0
    rw [List.append_nil] at *
    cases h1 with
    | nils => exact ⟨_, [], rfl, hb, hnd, hlt, .agg (F := [] ++ []) (.cons .nils h2)⟩
    | ow hh hw hlen hc hl hcap hm hs hv =>
      rename_i b len cap cur e cs' F2
      have hl2 := hl.lt
      have hnb := (List.nodup_cons.1 hnd).1
      refine ⟨_, [b], rfl, hb, by simp, fun c hc => hlt c (by simp at hc; simp [hc]), .agg (F := [b] ++ []) (.cons ?_ (h2.move_ (fun c hc => ⟨⟨hc.1, fun h => hc.2 (by simp at h; simp [h])⟩, rfl⟩) (by simp)))⟩
      refine .ow (F := []) hh (fun y hy => by obtain ⟨x, hx, rfl⟩ := List.mem_map.1 hy; rw [width_frz]; exact hw x hx) (by simpa using hlen) hc ?_ hcap hm hs hv
      rw [flat_frz]
      refine hl.frz_ (fun c hc => ⟨hc.1, fun h => hc.2 (by simp at h; simp [h])⟩) fun c hc => ⟨.inr ⟨hlt c (by simp [hc]), hl2 c hc⟩, fun h => ?_⟩
      simp at h
      subst h
      exact hnb hc
end Go.Fw
namespace Go.Proofs.YtljjcffnomdhhaaGreatDoor
open Go Go.Fw
theorem c_l7Copy (x : Dsk) (hx : x.f.length ≤ 1048576) (hd : ∀ f ∈ x.f, f.d.length ≤ 1048576) : PCtr PP n_spec_l7Copy [x.enc false false] (x.enc true false) := by
  have h := (c_l7CopyO x hx hd).frzIn rfl
  have e : (x.f.map (Fil.enc true)).map frz = x.f.map (Fil.enc false) := by
    rw [List.map_map]
    exact List.map_congr_left fun f _ => frz_Fil f
  rw [e] at h
  exact h
end Go.Proofs.YtljjcffnomdhhaaGreatDoor

/- An own slice in a cell of a variable told as a row of its own. Plain theorems, no condition. -/
set_option linter.unusedVariables false
set_option linter.unusedSimpArgs false
namespace Go.Fw
variable {S : State}
theorem Sbs.ownCell {r j q n : Nat} {row : Row} {y : A} {ys : List A} (hr : rowAt S.rows r = some row) (hy : row.xs[j]? = some y) (hz : y.cells[q]? = some (.sl true n ys))
    (hy2 : (row.xs.set j (newElem y q [.un]))[j]? = some (newElem y q [.un])) (hz2 : (newElem y q [.un]).cells[q]? = some .un) (hlk : row.lk = true := by rfl) :
    Sbs S (((S.setRow r ⟨row.n, row.xs.set j (newElem y q [.un]), true⟩).addRow ⟨n, ys, false⟩).setRow r ⟨row.n, (row.xs.set j (newElem y q [.un])).set j (newElem (newElem y q [.un]) q [.vw S.rows.length 0 ys.length]), true⟩) := by
  intro P E a w ⟨hd, G, gs, hi⟩
  obtain ⟨b, cur, e, v, F1, Fz, F3, hb, hh, hv, hcv, hrel, hF2, hcell⟩ := hi.cell hr hlk hy hz
  obtain ⟨hi1, hR1, _⟩ := hcell .un [] rfl Res.nil .un
  have hrl : r < S.rows.length := rowAt_lt hr
  have hl1 : (S.setRow r ⟨row.n, row.xs.set j (newElem y q [.un]), true⟩).rows.length = S.rows.length := by simp [State.setRow]
  have hrel' : Rel w G (.sl true n ys) v Fz := by cases hrel with | of h => exact h
  clear hcell hrel
  have hrow : rowAt ((S.setRow r ⟨row.n, row.xs.set j (newElem y q [.un]), true⟩).addRow ⟨n, ys, false⟩).rows S.rows.length = some ⟨n, ys, false⟩ := by
    show rowAt ((S.setRow r ⟨row.n, row.xs.set j (newElem y q [.un]), true⟩).rows ++ [some ⟨n, ys, false⟩]) S.rows.length = _
    rw [rowAt_push, if_pos hl1.symm]
  have hr2 : rowAt ((S.setRow r ⟨row.n, row.xs.set j (newElem y q [.un]), true⟩).addRow ⟨n, ys, false⟩).rows r = some ⟨row.n, row.xs.set j (newElem y q [.un]), true⟩ := by
    show rowAt ((S.rows.set r (some _)) ++ [some ⟨n, ys, false⟩]) r = _
    rw [rowAt_push, if_neg (by simp; omega), rowAt_set _ _ _ _ hrl, if_pos rfl]
  have hstep : ∃ gs2, Inv E G gs2 ((S.setRow r ⟨row.n, row.xs.set j (newElem y q [.un]), true⟩).addRow ⟨n, ys, false⟩) a.tmps w ∧ (gs2 r).1 = some b ∧
      TRel w G ((S.setRow r ⟨row.n, row.xs.set j (newElem y q [.un]), true⟩).addRow ⟨n, ys, false⟩).rows gs2 (.vw S.rows.length 0 ys.length) v [] := by
    have hlt : ∀ c ∈ Fz ++ [], c < w.heap.size := fun c hc => hrel'.lt c (by simpa using hc)
    have hR1' : Res E G (gs.add r (some b) (F1 ++ ([] ++ F3))) (S.setRow r ⟨row.n, row.xs.set j (newElem y q [.un]), true⟩).rows (Fz ++ []) := by rw [List.append_nil]; exact hR1
    have hself : ∀ ob F, ((gs.add r (some b) (F1 ++ ([] ++ F3))).add (S.setRow r ⟨row.n, row.xs.set j (newElem y q [.un]), true⟩).rows.length ob F) S.rows.length = (ob, F) := fun ob F => by
      simp [Gh.add, hl1]
    have hre : ∀ ob F, (((gs.add r (some b) (F1 ++ ([] ++ F3))).add (S.setRow r ⟨row.n, row.xs.set j (newElem y q [.un]), true⟩).rows.length ob F) r).1 = some b := fun ob F => by
      have : r ≠ S.rows.length := by omega
      simp [Gh.add, hl1, this]
    cases hrel' with
    | nils =>
      have := adopt_res (ob := none) (F := []) hi1 hR1' hlt rfl (row := ⟨n, [], false⟩) (fun _ _ => ⟨rfl, rfl⟩)
      exact ⟨_, this.inv, hre _ _, .vwn hrow (by rw [hself]) rfl⟩
    | ow hh2 hw hlen hc hl hcap hm hs hv0 =>
      rename_i b2 len cap cur2 e2 cs F
      subst hlen
      subst hc
      have := adopt_res (ob := some b2) (F := F) hi1 hR1' hlt rfl (row := ⟨n, ys, false⟩) (fun rows' gs' => ⟨cur2, e2, cap, hh2, hs, .of hcap, hm, hw, hv0, hl⟩)
      refine ⟨_, this.inv, hre _ _, ?_⟩
      have hv := TRel.vw (w := w) (G := G) (gs := (gs.add r (some b) (F1 ++ ([] ++ F3))).add (S.setRow r ⟨row.n, row.xs.set j (newElem y q [.un]), true⟩).rows.length (some b2) F) (off := 0) (len := ys.length) (k := 0) hrow (by rw [hself]) (by simp) hh2 hs hm hcap (.inl (by simp))
      simpa using hv
  obtain ⟨gs2, hi2, hb2, hvw⟩ := hstep
  obtain ⟨b', cur', e', v', _, _, _, hb', hh', hv', _, _, _, hcell2⟩ := hi2.cell hr2 rfl hy2 hz2
  rw [hb2] at hb'
  obtain rfl := Option.some.inj hb'
  rw [hh] at hh'
  simp only [Option.some.injEq, Obj.cells.injEq] at hh'
  obtain ⟨rfl, _, _⟩ := hh'
  have hvv : v' = v := by
    have h2 : cur[j * row.n + q]? = some v' := hv'
    rw [hv] at h2
    exact (Option.some.inj h2).symm
  subst hvv
  obtain ⟨h1, _, _⟩ := hcell2 (.vw S.rows.length 0 ys.length) [] rfl Res.nil hvw
  exact ⟨hd, G, _, h1⟩
end Go.Fw

/- Regions that draw their order: quiet reads of rows that are lent, a few orders, and behind all a tail that may write these rows. Plain theorems, no condition. -/
set_option linter.unusedVariables false
set_option linter.unusedSimpArgs false
namespace Go.Fw
section
variable {P : Program} {T : Nat → Option TI} {S : State} {Ω : Opq}
/-- The orders, ended by what f says; m: none of the tail comes up before. -/
def heldT (ops : Array Oper) (kp : Nat → Bool) (f : Array Bool → Bool) : Ord → Array Bool → Bool
  | .fin, l => f l
  | .step n o, l => decide (Region.ready .any ops l = [n]) && heldT ops kp f o (l.setIfInBounds n true)
  | .two n o m p, l => decide (Region.ready .any ops l = [n, m]) && decide (o.depth = p.depth) && heldT ops kp f o (l.setIfInBounds n true) && heldT ops kp f p (l.setIfInBounds m true)
theorem ord_okT (hT : TabOK P T) {ops : List Oper} {Q : Exit → Act → World → Prop} {kp : Nat → Bool} {Sc : World → Prop} {E : Env P} (hSc : ∀ S a w, SInv E S a w → Sc w) {K : State → Prop} {m : Nat} {f : Array Bool → Bool} (hK : ∀ S a w l, K S → SInv E S a w → f l = true → anyK P .any ops.toArray Q kp Sc m l a w) :
    ∀ (o : Ord) (l : Array Bool) (mv : Option Nat) (S : State) (a : Act) (w : World), heldT ops.toArray kp f o l = true →
    vOrd std P T ops o mv S K → SInv E S a w → anyK P .any ops.toArray Q kp Sc (o.depth + m) l a w
  | .fin, l, mv, S, a, w, hB, h, hs => by rw [Ord.depth, Nat.zero_add]; exact hK S a w l h hs hB
  | .step n o, l, mv, S, a, w, hB, h, hs => by
    simp only [heldT, Bool.and_eq_true, decide_eq_true_eq] at hB
    unfold vOrd at h
    rw [Ord.depth, show o.depth + 1 + m = o.depth + m + 1 by omega]
    refine ⟨fun h0 => (by rw [hB.1] at h0; cases h0), fun i hi => ?_⟩
    rw [hB.1] at hi
    have hin : i = n := by simpa using hi
    subst hin
    exact vOne_ok hT h hs fun mv' S' a' w' hK' hs' => ⟨fun _ => hSc _ _ _ hs', ord_okT hT hSc hK o _ _ S' a' w' hB.2 hK' hs'⟩
  | .two n o m' p, l, mv, S, a, w, hB, h, hs => by
    simp only [heldT, Bool.and_eq_true, decide_eq_true_eq] at hB
    unfold vOrd at h
    rw [Ord.depth, show o.depth + 1 + m = o.depth + m + 1 by omega]
    refine ⟨fun h0 => (by rw [hB.1.1.1] at h0; cases h0), fun i hi => ?_⟩
    rw [hB.1.1.1] at hi
    have hin : i = n ∨ i = m' := by simpa using hi
    rcases hin with rfl | rfl
    · exact vOne_ok hT h.1 hs fun mv' S' a' w' hK' hs' => ⟨fun _ => hSc _ _ _ hs', ord_okT hT hSc hK o _ _ S' a' w' hB.1.2 hK' hs'⟩
    · exact vOne_ok hT h.2 hs fun mv' S' a' w' hK' hs' => ⟨fun _ => hSc _ _ _ hs', by rw [hB.1.1.2]; exact ord_okT hT hSc hK p _ _ S' a' w' hB.2 hK' hs'⟩
def lentOB (ops : Array Oper) (qs : List Nat) (o : Ord) (n2 : List Nat) : Bool :=
  Region.noSelect ops && (decide (qs.length + (o.depth + n2.length) = ops.size) && (quietB ops (fun j => !n2.contains j) qs (Array.replicate ops.size false) &&
    heldT ops (fun j => !n2.contains j) (fun l => chainB ops n2 l && (Region.ready .any ops (listAll n2 l)).isEmpty) o (listAll qs (Array.replicate ops.size false))))
/-- A region that draws its order: qs read rows rs; the orders o leave these alone; n2 come behind all. -/
theorem VC_lentO (hT : TabOK P T) {Ω : Opq} (hΩ : Ω = std) (hm : P.follows .mixedOrders = true) (qs : List Nat) (o : Ord) (n2 rs hs : List Nat) {id : Nat} {ops : Array Oper} {K : Exit → State → Prop} (hB : lentOB ops qs o n2 = true)
    (h : vRs Ω T rs ops.toList qs S fun S1 => lendB S1 rs hs = true ∧ ∀ vs : Nat → Value, vOrd Ω P T ops.toList o none (S1.lend rs hs vs) fun S2 => keptA S2 vs hs ∧ backB S2 rs = true ∧
      vNs Ω P T ops.toList none n2 (S2.unlend S1 rs hs) (K .normal)) : VC P (.region id ops true) S K := by
  subst hΩ
  intro E a w hs0
  have hops : ops = ops.toList.toArray := by simp
  rw [hops] at hB ⊢
  obtain ⟨hd, G, gs, hi⟩ := hs0
  simp only [lentOB, Bool.and_eq_true, decide_eq_true_eq] at hB
  obtain ⟨hsel, hsz, hq, hc1⟩ := hB
  have hw1 : Go.RowKit.Below w.heap.size w { w with drawn := w.drawn + 1 } := ⟨rfl, rfl, rfl, Nat.le_refl _, fun _ _ => rfl⟩
  have hi1 : Inv E G gs S a.tmps { w with drawn := w.drawn + 1 } := hi.below hw1 (fun _ h => h) (fun _ h => .inl h) (fun b h => Nat.lt_of_lt_of_le (hi.glt b h) hw1.size)
  generalize hw1e : { w with drawn := w.drawn + 1 } = w1 at *
  have hwp : wpAny P .any ops.toList.toArray (fun e a' w' => e = .normal ∧ ∃ S', (∃ S1, S1.rows = S.rows ∧ SInv (envAt E G gs S1 w1) S' a' w') ∧ K .normal S') ops.toList.toArray.size (Array.replicate ops.toList.toArray.size false) a w1 := by
    refine any_of_K (kp := fun j => !n2.contains j) (Sc := AgreeR G gs rs w1) _ _ _ _ ?_
    have e1 : ops.toList.toArray.size = qs.length + (o.depth + (n2.length + 0)) := by omega
    refine Eq.mp (congrArg (fun n => anyK P .any ops.toList.toArray _ _ _ n (Array.replicate ops.toList.toArray.size false) a w1) e1.symm) ?_
    refine quiet_ok (rs := rs) hT (fun c a w h => by cases h.1) hsel qs _ S a hq h hd hi1 ?_
    rintro S1 a1 ⟨hl, hvs⟩ hr1 hd1 hi2
    simp only [lendB, Bool.and_eq_true, decide_eq_true_eq, List.all_eq_true] at hl
    obtain ⟨hnd, hrows, hhs⟩ := hl
    have hrow : ∀ r ∈ rs, ∃ row, rowAt S1.rows r = some row ∧ rowOnly rs row = true := fun r hr => by
      have := hrows r hr
      split at this
      · rename_i row h; exact ⟨row, h, this⟩
      · cases this
    obtain ⟨gs0, hl1, hl2, hl3⟩ := hi2.lend (rs := rs) (hs := hs) hnd (fun r hr => let ⟨row, h, _⟩ := hrow r hr; ⟨row, h⟩) (fun i hi => (hhs i hi).1)
    have hSc : ∀ S' a' w', SInv (envL E G gs gs0 S1 rs a1.tmps w1) S' a' w' → AgreeR G gs rs w1 w' := fun S' a' w' ⟨_, G', gs', hi'⟩ => by
      have hcore := lent_agree hi2 hl2 hl3 hi' (fun r hr => let ⟨row, h, _⟩ := hrow r hr; ⟨row, h⟩)
      exact hcore
    refine ord_okT hT hSc (K := fun S2 => keptA S2 (vat E a1.tmps) hs ∧ backB S2 rs = true ∧ vNs std P T ops.toList none n2 (S2.unlend S1 rs hs) (K .normal)) ?_ o _ none _ a1 w1 hc1 (hvs (vat E a1.tmps)) ⟨hd1, G, gs0, hl1⟩
    rintro S2 a2 w2 l ⟨hk, hb, hn2⟩ ⟨hd2, G2, gs2, hi3⟩ hf
    simp only [Bool.and_eq_true] at hf
    simp only [backB, List.all_eq_true, Bool.and_eq_true, decide_eq_true_eq] at hb
    obtain ⟨hu, _⟩ := hi2.unlend (hs := hs) hl2 hl3 hi3 (keptA_spec hk) (fun r hr => by
      obtain ⟨h1, h2⟩ := hb r hr
      refine ⟨?_, h2⟩
      split at h1
      · assumption
      · cases h1) (fun i hi => (hhs i hi).2) hrow
    refine chain_ok hT n2 _ _ _ _ a2 w2 hf.1 (fun n hn hk => by simp [hn] at hk) hn2 ⟨hd2, G2, _, hu⟩ ?_
    intro S3 a3 w3 hK3 hs3
    exact ⟨by simpa using hf.2, rfl, S3, ⟨S1, hr1, hs3⟩, hK3⟩
  have hwp2 : (Code.region id ops.toList.toArray true).wp P (fun e a' w' => e = .normal ∧ ∃ S', (∃ S1, S1.rows = S.rows ∧ SInv (envAt E G gs S1 w1) S' a' w') ∧ K .normal S') a w := wp_region_any hm (by rw [hw1e]; exact hwp)
  refine wp_mono hwp2 ?_
  rintro e a' w' ⟨rfl, S', ⟨S1, hr1, hd', G', gs', hi'⟩, hK'⟩
  have e2 : envAt E G gs S1 w1 = envAt E G gs S w1 := by unfold envAt; rw [hr1]
  rw [e2] at hi'
  exact ⟨S', ⟨hd', G', gs', hi1.back hi'⟩, hK'⟩
end
end Go.Fw

/- A row of its own told as a slice in a cell of a variable; walks whose end is told otherwise. Plain theorems, no condition. -/
set_option linter.unusedVariables false
set_option linter.unusedSimpArgs false
namespace Go.Fw
section
variable {S : State}
theorem Sbs.foldCell {r j q r2 len : Nat} {row row2 row' : Row} {y y' z' : A} {zs : List A} (hr : rowAt S.rows r = some row) (hy : row.xs[j]? = some y) (hz : y.cells[q]? = some (.vw r2 0 len)) (h2 : rowAt S.rows r2 = some row2)
    (hlen : len ≤ row2.xs.length) (hzs : row2.xs.take len = zs) (hr' : rowAt (S.turn r2 none).rows r = some row') (hy' : row'.xs[j]? = some y') (hz' : y'.cells[q]? = some z') (hlk : row.lk = true := by rfl) (hlk2 : row2.lk = false := by rfl) (hlk' : row'.lk = true := by rfl) (hn : row'.n = row.n := by rfl) :
    Sbs S ((S.turn r2 none).setRow r ⟨row'.n, row'.xs.set j (newElem y' q [.sl true row2.n zs]), true⟩) := by
  intro P E a w ⟨hd, G, gs, hi⟩
  subst hzs
  obtain ⟨b, cur, e, v, F1, Fz, F3, hb, hh, hv, hcv, hrel, hF2, hcell⟩ := hi.cell hr hlk hy hz
  have hst1 : stash1 S (.vw r2 0 len) = (0 = 0 ∧ len ≤ row2.xs.length ∧ row2.lk = false, .sl true row2.n (row2.xs.take len), S.turn r2 none, [r2]) := by simp only [stash1, h2]
  have hnil : Fz = [] := by cases hrel with | vw => rfl | vwn => rfl | of h => cases h
  subst hnil
  obtain ⟨F, hst, hrel2⟩ := stash1_ok (R := []) hi Res.nil hrel (by rw [hst1]; exact ⟨rfl, hlen, hlk2⟩)
  rw [hst1] at hst hrel2
  rw [List.append_nil] at hst
  have hi1 : Inv E G gs (S.turn r2 none) a.tmps w := hst.inv
  obtain ⟨b', cur', e', v', G1, Gz, G3, hb', hh', hv', hcv', hrel', hF2', hcell'⟩ := hi1.cell hr' hlk' hy' hz'
  rw [hb] at hb'
  obtain rfl := Option.some.inj hb'
  rw [hh] at hh'
  simp only [Option.some.injEq, Obj.cells.injEq] at hh'
  obtain ⟨rfl, _, _⟩ := hh'
  rw [hn, hv] at hv'
  obtain rfl := Option.some.inj hv'
  obtain ⟨h3, _, _⟩ := hcell' (.sl true row2.n (row2.xs.take len)) F rfl hst.res (.of hrel2)
  exact ⟨hd, G, _, h3⟩
end
theorem mutPt {S : State} {r n : Nat} {xs ys : List A} (hr : rowAt S.rows r = some ⟨n, [.agg xs], true⟩) (hd : xs.all isData = true) (hl : ys.length = n) : Mut S (.pt r 0 0) (.bx xs) (.bx ys) [(r, [.agg ys])] := by
  have e : flat (Row.mk n [.agg xs] true).xs = xs := by simp [flat, A.cells]
  have := Mut.pt (S := S) (r := r) (ys' := ys) hr rfl rfl (by rw [e]; exact hd) hl
  rw [e] at this
  exact this
section
/-- Values that are kept in mind, behind all temporaries. -/
def State.gho (S : State) (b : Nat) (xs : List A) : State := ⟨entryT b xs ++ S.t, S.N, S.rows⟩
def cleanS (b : Nat) (S : State) : Bool := S.t.all fun p => Nat.blt p.1 b
variable {P : Program} {S : State}
theorem lk_clean {b : Nat} (h : cleanS b S = true) {i : Nat} (hi : b ≤ i) : lk S.t i = .un := by
  refine lk_of_not_mem fun p hp e => ?_
  have := List.all_eq_true.1 h p hp
  rw [Nat.blt_eq] at this
  omega
theorem gho_in {E : Env P} {G : Nat → Prop} {gs : Gh} {tmps : Array Value} {w : World} {b : Nat} {xs : List A} {vs : List Value} (hi : Inv E G gs S tmps w) (hb : Nat.ble S.N b = true) (hl : TRelL w G S.rows gs xs vs []) :
    Inv (P := P) { E with gv := fun i => if b ≤ i ∧ i < b + xs.length then vs.getD (i - b) undef else E.gv i } G gs (S.gho b xs) tmps w := by
  have hb := Nat.le_of_ble_eq_true hb
  refine ⟨hi.keep, hi.os, hi.tape, hi.output, hi.size, hi.sz, hi.gsub, hi.gnew, hi.glt, hi.row, hi.nod, hi.own, hi.dis, fun i => ?_⟩
  show TRel w G S.rows gs (lk (entryT b xs ++ S.t) i) _ []
  rw [entryT_lk]
  have hsz := hi.sz
  by_cases h : b ≤ i ∧ i < b + xs.length
  · rw [if_pos h]
    unfold vat
    rw [if_neg (by omega)]
    dsimp only
    rw [if_pos h]
    exact hl.get' (i - b) (by omega)
  · rw [if_neg h]
    have : vat (P := P) { E with gv := fun i => if b ≤ i ∧ i < b + xs.length then vs.getD (i - b) undef else E.gv i } tmps i = vat E tmps i := by
      unfold vat
      dsimp only
      rw [if_neg h]
    rw [this]
    exact hi.tmp i
theorem gho_out {E : Env P} {G : Nat → Prop} {gs : Gh} {tmps : Array Value} {w : World} {b n : Nat} {xs : List A} {vs : List Value} (hb : Nat.ble S.N b = true) (hc : cleanS b S = true) (hn : n = vs.length) (hx : xs.length = vs.length)
    (hi : Inv (P := P) { E with gv := fun i => if b ≤ i ∧ i < b + n then vs.getD (i - b) undef else E.gv i } G gs (S.gho b xs) tmps w) : Inv E G gs S tmps w ∧ TRelL w G S.rows gs xs vs [] := by
  have hb := Nat.le_of_ble_eq_true hb
  have hsz : tmps.size = S.N := hi.sz
  have key : ∀ i, TRel w G S.rows gs (if b ≤ i ∧ i < b + xs.length then xs.getD (i - b) .un else lk S.t i) (if i < tmps.size then tmps.getD i undef else if b ≤ i ∧ i < b + n then vs.getD (i - b) undef else E.gv i) [] := fun i => by
    have := hi.tmp i
    rw [show (S.gho b xs).t = entryT b xs ++ S.t from rfl, entryT_lk] at this
    exact this
  constructor
  · refine ⟨hi.keep, hi.os, hi.tape, hi.output, hi.size, hi.sz, hi.gsub, hi.gnew, hi.glt, hi.row, hi.nod, hi.own, hi.dis, fun i => ?_⟩
    by_cases h : b ≤ i
    · rw [lk_clean hc h]; exact .un
    · have := key i
      rw [if_neg (by omega), if_neg (c := b ≤ i ∧ i < b + n) (by omega)] at this
      exact this
  · have h2 : ∀ i, i < xs.length → TRel w G S.rows gs (xs.getD i .un) (vs.getD i undef) [] := fun i hi => by
      have := key (b + i)
      rw [if_pos ⟨by omega, by omega⟩, if_neg (by omega), if_pos ⟨by omega, by omega⟩, Nat.add_sub_cancel_left] at this
      exact this
    have : ∀ (xs : List A) (vs : List Value), xs.length = vs.length → (∀ i, i < xs.length → TRel w G S.rows gs (xs.getD i .un) (vs.getD i undef) []) → TRelL w G S.rows gs xs vs [] := by
      intro xs
      induction xs with
      | nil => intro vs h _; rw [List.eq_nil_of_length_eq_zero (l := vs) (by simpa using h.symm)]; exact .nil
      | cons x xs ih =>
        intro vs h h2
        cases vs with
        | nil => simp at h
        | cons v vs =>
          refine .cons (F := []) (Fs := []) (by simpa using h2 0 (by simp)) (ih vs (by simpa using h) fun i hi => ?_)
          simpa using h2 (i + 1) (by simpa using hi)
    exact this xs vs hx h2
/-- What is told ahead of a call, and behind it, told otherwise. -/
theorem call_sub {g : Nat} {args args' : List A} {S S' : State} {K : A → State → Prop} (b : Nat) (hb : Nat.ble S.N b = true) (hb' : Nat.ble S'.N b = true) (hc' : cleanS b S' = true) (ha : args'.length = args.length) (h : Sbs (S.gho b args) (S'.gho b args'))
    (hc : CallX P g args' S' fun x S1 => ∃ x' S2, Nat.ble S2.N b = true ∧ cleanS b S2 = true ∧ Sbs (S1.gho b [x]) (S2.gho b [x']) ∧ K x' S2) : CallX P g args S K := by
  refine ⟨hc.h.1, fun E G gs tmps w vs hi hl => ?_⟩
  have hlen := hl.length
  have h1 := gho_in hi hb hl
  obtain ⟨-, G', gs', h2⟩ := h P _ { tmps := tmps, defers := [] } w ⟨rfl, G, gs, h1⟩
  obtain ⟨h3, h4⟩ := gho_out hb' hc' hlen.symm (by rw [ha, hlen]) h2
  refine Calls.mono (hc.h.2 E G' gs' tmps w vs h3 h4) ?_
  rintro e w' ⟨v, x, S1, G1, gs1, rfl, ⟨x', S2, k1, k2, k3, k4⟩, k5, k6⟩
  have hN : Nat.ble S1.N b = true := by
    have e1 : tmps.size = S1.N := k5.sz
    have e2 : tmps.size = S'.N := h3.sz
    rw [← e1, e2]; exact hb'
  have h5 := gho_in (xs := [x]) (vs := [v]) k5 hN (.cons (F := []) (Fs := []) k6 .nil)
  obtain ⟨-, G2, gs2, h6⟩ := k3 P _ { tmps := tmps, defers := [] } w' ⟨rfl, G1, gs1, h5⟩
  obtain ⟨h7, h8⟩ := gho_out (xs := [x']) (vs := [v]) k1 k2 rfl rfl h6
  refine ⟨v, x', S2, G2, gs2, rfl, k4, h7, ?_⟩
  generalize hF : ([] : List Nat) = F at h8
  cases h8 with
  | cons a c =>
    cases c
    have : _ = [] := (List.append_eq_nil_iff.1 hF.symm).1
    subst this
    exact a
end
end Go.Fw

/- slices.Insert of one element of two cells: the library's text walked. Plain theorems, no condition. -/
set_option linter.unusedVariables false
set_option linter.unusedSimpArgs false
namespace Go.Fw
open Go Go.Shelf Go.RowKit Go.Lib Go.Proofs
/-- What the walk asks of the program: the bodies, the types, elements of two cells. -/
structure InsL (P : Program) (ρ : Ren) (z : Value) : Prop where
  mixed : P.follows .mixedOrders = true
  f22 : Bears P (ρ.f 22) (Body2.n22 ρ)
  ov : ∀ (args : Array Value) (w : World), (callFunc (ρ.f 29) args).run P w = ((Extern.SlicesOverlaps.overlaps #[(ρ.t 24), (ρ.t 24)] #[(ρ.t 4)] args).run P w).andThen fun v w' => .ok (.value v) w'
  t0 : P.underlying (ρ.t 0) = some (TypeDesc.tuple #[])
  a0 : ∀ w, (isAgg (ρ.t 0)).run P w = .ok false w
  z0 : ∀ w, (Go.sizeOf (ρ.t 0)).run P w = .ok 1 w
  v0 : ∀ w, (zeroValue (ρ.t 0)).run P w = .ok (Value.tuple #[]) w
  t3 : P.underlying (ρ.t 3) = some (TypeDesc.int IntKind.i64)
  a3 : ∀ w, (isAgg (ρ.t 3)).run P w = .ok false w
  z3 : ∀ w, (Go.sizeOf (ρ.t 3)).run P w = .ok 1 w
  v3 : ∀ w, (zeroValue (ρ.t 3)).run P w = .ok (Value.int IntKind.i64 0) w
  t4 : P.underlying (ρ.t 4) = some (TypeDesc.bool)
  a4 : ∀ w, (isAgg (ρ.t 4)).run P w = .ok false w
  z4 : ∀ w, (Go.sizeOf (ρ.t 4)).run P w = .ok 1 w
  v4 : ∀ w, (zeroValue (ρ.t 4)).run P w = .ok (Value.bool false) w
  z9 : ∀ w, (Go.sizeOf (ρ.t 9)).run P w = .ok 2 w
  t24 : P.underlying (ρ.t 24) = some (TypeDesc.slice (ρ.t 9))
  a24 : ∀ w, (isAgg (ρ.t 24)).run P w = .ok false w
  z24 : ∀ w, (Go.sizeOf (ρ.t 24)).run P w = .ok 1 w
  v24 : ∀ w, (zeroValue (ρ.t 24)).run P w = .ok (Value.slice none 0 0) w
  i9 : (P.info? (ρ.t 9)).map (fun i => (i.zero, i.size, i.bytes)) = some (some z, 2, 40)
  zc : z.cells.size = 2
section
variable {P : Program} {ρ : Ren} {z : Value}
theorem run_copy2 (w : World) (dT sT ty elem : TypeId) (b o dLen dCap : Nat) (a : Addr) (sLen sCap : Nat) (cs : List Value)
    (hu : P.underlying dT = some (.slice elem)) (hs : (P.info? elem).map (·.size) = some 2) (hn : cs.length = Nat.min sLen dLen * 2)
    (hsrc : ∀ j v, cs[j]? = some v → w.cell? (a.add j) = some v) (hc : ∀ j, j < cs.length → (w.cell? ⟨b, o + j, none⟩).isSome = true) (hf : ∀ j, j < cs.length → w.frozen? ⟨b, o + j, none⟩ = false) (h1 : ∀ v ∈ cs, v.oneCell' = true) :
    (Builtin.copy_ #[dT, sT] ty #[.slice (some ⟨b, o, none⟩) dLen dCap, .slice (some a) sLen sCap]).run P w = .ok (goInt (Nat.min sLen dLen : Nat)) (w.setCells b o cs) := by
  have hl := run_loadCells_list (P := P) w a cs hsrc
  have hst := run_storeCells_cells (P := P) b o cs 0 w (by simpa using hc) (by simpa using hf) h1
  cases hq : P.info? elem with
  | none => simp [hq] at hs
  | some i =>
    have hi : i.size = 2 := by simpa [hq] using hs
    simp [Builtin.copy_, run_underlying hu, Builtin.lenOf, Builtin.firstCells, sizeOf, typeInfo, hq, hi, ← hn, hl, hst]

set_option maxHeartbeats 4000000 in


set_option maxRecDepth 100000 in
/-- There is room, i < len(s): in place. -/
theorem ins_shift (L : InsL P ρ z) (b n c i vb vc : Nat) (cs vs : List Value) (w : World) (hi : i < n) (hroom : n + 1 ≤ c) (hc63 : c ≤ 9223372036854775807) (hvb : vb ≠ b)
    (hcl : cs.length = n * 2) (hvl : vs.length = 2)
    (hcs : ∀ j v, cs[j]? = some v → w.cell? ⟨b, j, none⟩ = some v) (hsp : ∀ j, j < (n + 1) * 2 → (w.cell? ⟨b, j, none⟩).isSome = true) (hfz : ∀ j, j < (n + 1) * 2 → w.frozen? ⟨b, j, none⟩ = false)
    (hvs : ∀ j v, vs[j]? = some v → w.cell? ⟨vb, j, none⟩ = some v) (h1c : ∀ v ∈ cs, v.oneCell' = true) (h1v : ∀ v ∈ vs, v.oneCell' = true)
    (tA tB : TypeId) (kA kB : Nat) (hsa : w.shape? vb = some (tA, kA)) (hsb : w.shape? b = some (tB, kB)) (hkB : kB ≠ 0) (hfa : w.frozen? ⟨vb, 0, none⟩ = false) (hfe : w.frozen? ⟨vb, kA, none⟩ = false) :
    Calls P (ρ.f 22) #[.slice (some ⟨b, 0, none⟩) n c, .int .i64 i, .slice (some ⟨vb, 0, none⟩) 1 vc] w fun e w' =>
      e = .returned (.slice (some ⟨b, 0, none⟩) (n + 1) c) ∧ w' = (w.drew.setCells b ((i + 1) * 2) (cs.drop (i * 2))).setCells b (i * 2) vs := by
  have t0 := L.t0; have a0 := L.a0; have z0 := L.z0; have v0 := L.v0; have t3 := L.t3; have a3 := L.a3; have z3 := L.z3; have v3 := L.v3; have t4 := L.t4; have a4 := L.a4; have z4 := L.z4; have v4 := L.v4; have z9 := L.z9; have t24 := L.t24; have a24 := L.a24; have z24 := L.z24; have v24 := L.v24
  have u0 := run_underlying L.t0; have u3 := run_underlying L.t3; have u4 := run_underlying L.t4; have u24 := run_underlying L.t24
  have hz2 : ¬ ((i : Int) = (n : Int)) := by omega
  have hsz : (P.info? (ρ.t 9)).map (·.size) = some 2 := by
    obtain ⟨i0, hi0, h0, h1, h2⟩ := info_parts L.i9
    rw [hi0]; simp [h1]
  have hov : ∀ lb cb, (callFunc (ρ.f 29) #[.slice (some ⟨vb, 0, none⟩) 1 vc, .slice (some ⟨b, (i + 1) * 2, none⟩) lb cb]).run P w = .ok (.value (.bool false)) w := fun lb cb => by
    rw [L.ov, Lib.run_overlaps_apart w (ρ.t 24) (ρ.t 4) (ρ.t 9) L.t24 2 L.z9 ⟨vb, 0, none⟩ ⟨b, (i + 1) * 2, none⟩ 1 vc lb cb hvb tA tB kA kB hsa hsb hkB hfa hfe]
    rfl
  have hdl : (cs.drop (i * 2)).length = (n - i) * 2 := by rw [List.length_drop, hcl]; omega
  have mixed := L.mixed
  have hw0 : IntKind.i64.wrap ((n : Int) + 1) = (n : Int) + 1 := by rw [IntKind.wrap_i64]; omega
  have hw1 : IntKind.i64.wrap ((i : Int) + 1) = (i : Int) + 1 := by rw [IntKind.wrap_i64]; omega
  have hb1 : (0 : Int) ≤ (i : Int) + 1 := by omega
  have hin : i ≤ n := by omega
  have htn : ((i : Int) + 1).toNat = i + 1 := by omega
  have htm : ((n : Int) + 1).toNat = n + 1 := by omega
  have hb2 : ¬ (c = i + 1) := by omega
  have hb3 : (i : Int) ≤ (n : Int) + 1 := by omega
  have hb4 : ¬ (c = i) := by omega
  have hcp1 : ∀ ty dc sc, (Builtin.copy_ #[(ρ.t 24), (ρ.t 24)] ty #[.slice (some ⟨b, (i + 1) * 2, none⟩) (n - i) dc, .slice (some ⟨b, i * 2, none⟩) (n + 1 - i) sc]).run P w.drew = .ok (goInt (Nat.min (n + 1 - i) (n - i) : Nat)) (w.drew.setCells b ((i + 1) * 2) (cs.drop (i * 2))) := fun ty dc sc =>
    run_copy2 w.drew _ _ ty (ρ.t 9) b ((i + 1) * 2) (n - i) dc ⟨b, i * 2, none⟩ (n + 1 - i) sc (cs.drop (i * 2)) L.t24 hsz (by rw [hdl]; simp only [Nat.min_def]; split <;> omega)
      (fun j v hj => by rw [Addr.add_lit]; exact hcs (i * 2 + j) v (by rwa [List.getElem?_drop] at hj))
      (fun j hj => hsp _ (by omega)) (fun j hj => hfz _ (by omega)) (fun v hv => h1c v (List.mem_of_mem_drop hv))
  obtain ⟨W1, hW1⟩ : ∃ W1, W1 = w.drew.setCells b ((i + 1) * 2) (cs.drop (i * 2)) := ⟨_, rfl⟩
  have hsp1 : ∀ k, k < (n + 1) * 2 → (W1.cell? ⟨b, k, none⟩).isSome = true := fun k hk => by
    rw [hW1]
    exact Go.Proofs.isSome_setCells b _ _ _ (fun j hj => by rw [hdl] at hj; exact hsp _ (by omega)) _ (hsp k hk)
  have hcp2 : ∀ (W : World), (∀ x, W.cell? x = W1.cell? x) → (∀ x, W.frozen? x = W1.frozen? x) → ∀ ty dc, (Builtin.copy_ #[(ρ.t 24), (ρ.t 24)] ty #[.slice (some ⟨b, i * 2, none⟩) (n + 1 - i) dc, .slice (some ⟨vb, 0, none⟩) 1 vc]).run P W = .ok (goInt (Nat.min 1 (n + 1 - i) : Nat)) (W.setCells b (i * 2) vs) := fun W hWc hWf ty dc =>
    run_copy2 W _ _ ty (ρ.t 9) b (i * 2) (n + 1 - i) dc ⟨vb, 0, none⟩ 1 vc vs L.t24 hsz (by rw [hvl]; simp only [Nat.min_def]; split <;> omega)
      (fun j v hj => by
        rw [Addr.add_lit, hWc, hW1, World.cell?_setCells_out b _ _ _ _ (fun h _ => absurd h hvb), Nat.zero_add]
        exact hvs j v hj)
      (fun j hj => by rw [hWc]; exact hsp1 _ (by omega)) (fun j hj => by rw [hWf, hW1, World.frozen?_setCells]; exact hfz _ (by omega)) h1v
  rw [← hW1] at hcp1
  obtain ⟨_, _, FG⟩ := L.f22
  go_enter FG, Body2.n22_ntmps ρ
  go_wp2_with (simp only [hov])
  go_region_law_o (refine step_copy_runI rfl _ _ (ρ.t 24) (ρ.t 24) rfl _ _ (by simp [Act.eval, Act.put]) (by simp [Act.eval, Act.put]) (hcp1 _ _ _) ?_)
  go_wp2_with (at_builtin; refine wpList_copy_runI _ rfl _ _ (ρ.t 24) (ρ.t 24) rfl _ _ rfl rfl (hcp2 _ (fun _ => rfl) (fun _ => rfl) _ _) ?_)
  go_ret
  first | exact ⟨rfl, rfl⟩ | exact ⟨rfl, by rw [hW1]⟩
set_option maxHeartbeats 4000000 in


set_option maxRecDepth 100000 in
/-- There is room, i = len(s): in place. -/
theorem ins_end_room (L : InsL P ρ z) (b n c vb vc : Nat) (vs : List Value) (w : World) (hroom : n + 1 ≤ c) (hc63 : c ≤ 9223372036854775807)
    (hvl : vs.length = 2) (hsp : ∀ j, j < 2 → (w.cell? ⟨b, n * 2 + j, none⟩).isSome = true) (hfz : ∀ j, j < 2 → w.frozen? ⟨b, n * 2 + j, none⟩ = false)
    (hvs : ∀ j v, vs[j]? = some v → w.cell? ⟨vb, j, none⟩ = some v) (h1v : ∀ v ∈ vs, v.oneCell' = true) :
    Calls P (ρ.f 22) #[.slice (some ⟨b, 0, none⟩) n c, .int .i64 n, .slice (some ⟨vb, 0, none⟩) 1 vc] w fun e w' =>
      e = .returned (.slice (some ⟨b, 0, none⟩) (n + 1) c) ∧ w' = w.setCells b (n * 2) vs := by
  have t0 := L.t0; have a0 := L.a0; have z0 := L.z0; have v0 := L.v0; have t3 := L.t3; have a3 := L.a3; have z3 := L.z3; have v3 := L.v3; have t4 := L.t4; have a4 := L.a4; have z4 := L.z4; have v4 := L.v4; have z9 := L.z9; have t24 := L.t24; have a24 := L.a24; have z24 := L.z24; have v24 := L.v24
  have u0 := run_underlying L.t0; have u3 := run_underlying L.t3; have u4 := run_underlying L.t4; have u24 := run_underlying L.t24
  have mixed := L.mixed
  obtain ⟨i0, hi0, hz0, hzs, hzb⟩ := info_parts L.i9
  have hsrc : Src P i0.size (ρ.t 24) (.slice (some ⟨vb, 0, none⟩) 1 vc) 1 vs w := by
    rw [hzs]
    exact Src.ofSlice w L.t24 ⟨vb, 0, none⟩ 1 vc vs (by omega) (fun j u hj => by rw [Addr.add_lit, Nat.zero_add]; exact hvs j u hj) h1v
  have hrun : ∀ ty, (Builtin.append_ #[(ρ.t 24), (ρ.t 24)] ty #[.slice (some ⟨b, 0, none⟩) n c, .slice (some ⟨vb, 0, none⟩) 1 vc]).run P w = .ok (.slice (some ⟨b, 0, none⟩) (n + 1) c) (w.setCells b (n * 2) vs) := fun ty => by
    have h := run_append_room_src w (ρ.t 24) (ρ.t 24) ty (ρ.t 9) i0 L.t24 hi0 b 0 n c _ 1 vs hsrc hroom (by rw [hzs, hvl, Nat.zero_add]; exact hsp) (by rw [hzs, hvl, Nat.zero_add]; exact hfz)
    rw [hzs, Nat.zero_add] at h
    exact h
  obtain ⟨_, _, FG⟩ := L.f22
  go_enter FG, Body2.n22_ntmps ρ
  go_wp2_with (at_builtin; refine Lib.wpList_append_run _ rfl _ _ _ _ rfl _ _ rfl rfl _ _ (hrun _) ?_)
  go_ret
  exact ⟨rfl, rfl⟩

set_option maxHeartbeats 4000000 in


set_option maxRecDepth 100000 in
/-- No room, i = len(s): a new row. -/
theorem ins_end_grow (L : InsL P ρ z) (base : Option Addr) (n c vb vc : Nat) (cs vs : List Value) (w : World) (hnc : n ≤ c) (hroom : c < n + 1) (hbig : (n + 1) * 40 ≤ 140737488355328)
    (hcl : cs.length = n * 2) (hvl : vs.length = 2) (hnil : base = none → n = 0)
    (hcs : ∀ a, base = some a → ∀ j v, cs[j]? = some v → w.cell? (a.add j) = some v)
    (hvs : ∀ j v, vs[j]? = some v → w.cell? ⟨vb, j, none⟩ = some v) (h1v : ∀ v ∈ vs, v.oneCell' = true) :
    Calls P (ρ.f 22) #[.slice base n c, .int .i64 n, .slice (some ⟨vb, 0, none⟩) 1 vc] w fun e w' =>
      e = .returned (.slice (some ⟨w.heap.size, 0, none⟩) (n + 1) (grownCap w (n + 1) c (ρ.t 9))) ∧
      w' = w.drew.alloc (.cells ((cs ++ vs).toArray ++ Builtin.zeroCells z.cells (grownCap w (n + 1) c (ρ.t 9) - (n + 1))) (ρ.t 9)) := by
  have t0 := L.t0; have a0 := L.a0; have z0 := L.z0; have v0 := L.v0; have t3 := L.t3; have a3 := L.a3; have z3 := L.z3; have v3 := L.v3; have t4 := L.t4; have a4 := L.a4; have z4 := L.z4; have v4 := L.v4; have z9 := L.z9; have t24 := L.t24; have a24 := L.a24; have z24 := L.z24; have v24 := L.v24
  have u0 := run_underlying L.t0; have u3 := run_underlying L.t3; have u4 := run_underlying L.t4; have u24 := run_underlying L.t24
  have mixed := L.mixed
  obtain ⟨i0, hi0, hz0, hzs, hzb⟩ := info_parts L.i9
  have hsrc : Src P i0.size (ρ.t 24) (.slice (some ⟨vb, 0, none⟩) 1 vc) 1 vs w := by
    rw [hzs]
    exact Src.ofSlice w L.t24 ⟨vb, 0, none⟩ 1 vc vs (by omega) (fun j u hj => by rw [Addr.add_lit, Nat.zero_add]; exact hvs j u hj) h1v
  have hold : (Builtin.firstCells i0.size n (.slice base n c)).run P w.drew = .ok cs.toArray w.drew := by
    rw [hzs]
    cases base with
    | none =>
      have h0 := hnil rfl
      subst h0
      have hc0 : cs = [] := List.eq_nil_of_length_eq_zero (by omega)
      rw [hc0]
      exact run_firstCells_none w.drew 2 0 0 c
    | some a => exact run_firstCells_some w.drew 2 n a n c cs (by omega) (fun j v hj => hcs a rfl j v hj)
  have hrun : ∀ ty, (Builtin.append_ #[(ρ.t 24), (ρ.t 24)] ty #[.slice base n c, .slice (some ⟨vb, 0, none⟩) 1 vc]).run P w = _ := fun ty =>
    run_append_grow_src w (ρ.t 24) (ρ.t 24) ty (ρ.t 9) i0 _ L.t24 hi0 hz0 base n c cs hold _ 1 vs hsrc hroom (by omega) (by rw [hzb]; exact growslice_fits hroom hbig)
  obtain ⟨ROW, hROW⟩ : ∃ ROW : Array Value, ROW = (cs ++ vs).toArray ++ Builtin.zeroCells z.cells (grownCap w (n + 1) c (ρ.t 9) - (n + 1)) := ⟨_, rfl⟩
  rw [← hROW] at hrun ⊢
  clear hROW
  obtain ⟨_, _, FG⟩ := L.f22
  go_enter FG, Body2.n22_ntmps ρ
  cases base with
  | none =>
    have h0 := hnil rfl
    subst h0
    go_wp2_with (at_builtin; refine Lib.wpList_append_run _ rfl _ _ _ _ rfl _ _ rfl rfl _ _ (hrun _) ?_)
    all_goals (go_ret; exact ⟨rfl, rfl⟩)
  | some a =>
    obtain ⟨ab, ao, asp⟩ := a
    go_wp2_with (at_builtin; refine Lib.wpList_append_run _ rfl _ _ _ _ rfl _ _ rfl rfl _ _ (hrun _) ?_)
    all_goals (go_ret; exact ⟨rfl, rfl⟩)
set_option maxHeartbeats 4000000 in


set_option maxRecDepth 100000 in
/-- No room, i < len(s): a new row. -/
theorem ins_grow (L : InsL P ρ z) (b n c i vb vc : Nat) (cs vs : List Value) (w : World) (hi : i < n) (hnc : n ≤ c) (hroom : c < n + 1) (hbig : (n + 1) * 40 ≤ 140737488355328)
    (hcl : cs.length = n * 2) (hvl : vs.length = 2)
    (hcs : ∀ j v, cs[j]? = some v → w.cell? ⟨b, j, none⟩ = some v)
    (hvs : ∀ j v, vs[j]? = some v → w.cell? ⟨vb, j, none⟩ = some v) (h1c : ∀ v ∈ cs, v.oneCell' = true) (h1v : ∀ v ∈ vs, v.oneCell' = true) :
    Calls P (ρ.f 22) #[.slice (some ⟨b, 0, none⟩) n c, .int .i64 i, .slice (some ⟨vb, 0, none⟩) 1 vc] w fun e w' =>
      e = .returned (.slice (some ⟨w.heap.size, 0, none⟩) (n + 1) (grownCap w (n + 1) c (ρ.t 9))) ∧
      w' = (((w.alloc (.cells ((cs.take (i * 2)).toArray ++ Builtin.zeroCells z.cells (n + 1 - i) ++ Builtin.zeroCells z.cells (grownCap w (n + 1) c (ρ.t 9) - (n + 1))) (ρ.t 9))).drew.setCells w.heap.size (i * 2) vs).drew).setCells w.heap.size ((i + 1) * 2) (cs.drop (i * 2)) := by
  have t0 := L.t0; have a0 := L.a0; have z0 := L.z0; have v0 := L.v0; have t3 := L.t3; have a3 := L.a3; have z3 := L.z3; have v3 := L.v3; have t4 := L.t4; have a4 := L.a4; have z4 := L.z4; have v4 := L.v4; have z9 := L.z9; have t24 := L.t24; have a24 := L.a24; have z24 := L.z24; have v24 := L.v24
  have u0 := run_underlying L.t0; have u3 := run_underlying L.t3; have u4 := run_underlying L.t4; have u24 := run_underlying L.t24
  have mixed := L.mixed
  obtain ⟨i0, hi0, hz0, hzs, hzb⟩ := info_parts L.i9
  have hz2 : ¬ ((i : Int) = (n : Int)) := by omega
  have hz3 : (c : Int) < (n : Int) + 1 := by omega
  have hsz : (P.info? (ρ.t 9)).map (·.size) = some 2 := by rw [hi0]; simp [hzs]
  have hbw : b < w.heap.size := block_lt_of_cell (hcs 0 _ (List.getElem?_eq_getElem (by omega)))
  have hvw : vb < w.heap.size := block_lt_of_cell (hvs 0 _ (List.getElem?_eq_getElem (by omega)))
  have hkk : (n : Int) + 1 - (i : Int) = ((n + 1 - i : Nat) : Int) := by omega
  have hik : i + (n + 1 - i) = n + 1 := by omega
  have hold : (Builtin.firstCells i0.size i (.slice (some ⟨b, 0, none⟩) i c)).run P w.drew = .ok (cs.take (i * 2)).toArray w.drew := by
    rw [hzs]
    exact run_firstCells_some w.drew 2 i ⟨b, 0, none⟩ i c (cs.take (i * 2)) (by rw [List.length_take]; omega) (fun j v hj => by
      rw [Addr.add_lit, Nat.zero_add]
      rw [List.getElem?_take] at hj
      split at hj
      · exact hcs j v hj
      · cases hj)
  have hrz : ∀ ty, (Builtin.append_ #[(ρ.t 24), (ρ.t 3)] ty #[.slice (some ⟨b, 0, none⟩) i c, .int .i64 ((n : Int) + 1 - (i : Int))]).run P w =
      .ok (.slice (some ⟨w.heap.size, 0, none⟩) (n + 1) (grownCap w (n + 1) c (ρ.t 9))) (w.drew.alloc (.cells ((cs.take (i * 2)).toArray ++ Builtin.zeroCells z.cells (n + 1 - i) ++ Builtin.zeroCells z.cells (grownCap w (n + 1) c (ρ.t 9) - (n + 1))) (ρ.t 9))) := fun ty => by
    have h := Lib.run_append_grow_zeros w (ρ.t 24) (ρ.t 3) ty (ρ.t 9) i0 _ .i64 .i64 L.t24 L.t3 hi0 hz0 (some ⟨b, 0, none⟩) i c (cs.take (i * 2)) hold (n + 1 - i) (by omega) (by omega) (by omega) (by omega) (by rw [hzb]; omega) (by rw [hzb, hik]; exact growslice_fits hroom hbig)
    rw [hik] at h
    rw [hkk]
    exact h
  obtain ⟨G, hG⟩ : ∃ G, G = grownCap w (n + 1) c (ρ.t 9) := ⟨_, rfl⟩
  obtain ⟨zs, hzsz⟩ : ∃ zs, zs = z.cells := ⟨_, rfl⟩
  have hzl : zs.size = 2 := by rw [hzsz]; exact L.zc
  rw [← hzsz] at hrz ⊢
  obtain ⟨ROW, hROW⟩ : ∃ ROW : Array Value, ROW = (cs.take (i * 2)).toArray ++ Builtin.zeroCells zs (n + 1 - i) ++ Builtin.zeroCells zs (G - (n + 1)) := ⟨_, rfl⟩
  rw [← hG] at hrz ⊢
  rw [← hROW] at hrz ⊢
  have hRl : (n + 1) * 2 ≤ ROW.size := by
    have h1 : (Builtin.zeroCells zs (n + 1 - i)).size = (n + 1 - i) * 2 := by simp [Builtin.zeroCells, hzl]
    rw [hROW, Array.size_append, Array.size_append, h1]
    have h2 : (cs.take (i * 2)).toArray.size = i * 2 := by simp; omega
    omega
  obtain ⟨W1, hW1⟩ : ∃ W1, W1 = w.drew.alloc (.cells ROW (ρ.t 9)) := ⟨_, rfl⟩
  rw [← hW1] at hrz
  have hN : ∀ j, j < (n + 1) * 2 → (W1.cell? ⟨w.heap.size, j, none⟩).isSome = true := fun j hj => by
    rw [hW1, World.cell?_alloc_at (w := w.drew) ROW _ w.heap.size j rfl, Array.getElem?_eq_getElem (by omega)]; rfl
  have hNf : ∀ j, W1.frozen? ⟨w.heap.size, j, none⟩ = false := fun j => by rw [hW1]; exact World.frozen?_alloc_at (w := w.drew) ROW _ w.heap.size j rfl
  have hOb : ∀ j v, w.cell? ⟨b, j, none⟩ = some v → W1.cell? ⟨b, j, none⟩ = some v := fun j v h => by rw [hW1, World.cell?_alloc_past (w := w.drew) _ b j hbw]; exact h
  have hOv : ∀ j v, w.cell? ⟨vb, j, none⟩ = some v → W1.cell? ⟨vb, j, none⟩ = some v := fun j v h => by rw [hW1, World.cell?_alloc_past (w := w.drew) _ vb j hvw]; exact h
  have hcpA : ∀ (W : World), (∀ x, W.cell? x = W1.cell? x) → (∀ x, W.frozen? x = W1.frozen? x) → ∀ ty dc, (Builtin.copy_ #[(ρ.t 24), (ρ.t 24)] ty #[.slice (some ⟨w.heap.size, i * 2, none⟩) (n + 1 - i) dc, .slice (some ⟨vb, 0, none⟩) 1 vc]).run P W = .ok (goInt (Nat.min 1 (n + 1 - i) : Nat)) (W.setCells w.heap.size (i * 2) vs) := fun W hWc hWf ty dc =>
    run_copy2 W _ _ ty (ρ.t 9) w.heap.size (i * 2) (n + 1 - i) dc ⟨vb, 0, none⟩ 1 vc vs L.t24 hsz (by rw [hvl]; simp only [Nat.min_def]; split <;> omega)
      (fun j v hj => by rw [Addr.add_lit, hWc, Nat.zero_add]; exact hOv _ v (hvs j v hj))
      (fun j hj => by rw [hWc]; exact hN _ (by omega)) (fun j hj => by rw [hWf]; exact hNf _) h1v
  have hGn : n + 1 ≤ G := by rw [hG]; exact grownCap_ge w _ _ _
  have hG63 : G ≤ 9223372036854775807 := by
    have := grownCap_le_maxLen w (n + 1) c (ρ.t 9) (by unfold maxLen; omega)
    rw [← hG] at this
    unfold maxLen at this
    omega
  have hGi : ¬ (G = i) := by omega
  have hGim : ¬ (G = i + 1) := by omega
  have hci : ¬ (c = i) := by omega
  have hbN : b ≠ w.heap.size := by omega
  have hdl : (cs.drop (i * 2)).length = (n - i) * 2 := by rw [List.length_drop, hcl]; omega
  have hcpB : ∀ (W : World), (∀ x, W.cell? x = (W1.setCells w.heap.size (i * 2) vs).cell? x) → (∀ x, W.frozen? x = (W1.setCells w.heap.size (i * 2) vs).frozen? x) → ∀ ty dc sc, (Builtin.copy_ #[(ρ.t 24), (ρ.t 24)] ty #[.slice (some ⟨w.heap.size, (i + 1) * 2, none⟩) (n - i) dc, .slice (some ⟨b, i * 2, none⟩) (n - i) sc]).run P W = .ok (goInt (Nat.min (n - i) (n - i) : Nat)) (W.setCells w.heap.size ((i + 1) * 2) (cs.drop (i * 2))) := fun W hWc hWf ty dc sc =>
    run_copy2 W _ _ ty (ρ.t 9) w.heap.size ((i + 1) * 2) (n - i) dc ⟨b, i * 2, none⟩ (n - i) sc (cs.drop (i * 2)) L.t24 hsz (by rw [hdl]; simp only [Nat.min_def]; split <;> omega)
      (fun j v hj => by
        rw [Addr.add_lit, hWc, World.cell?_setCells_out _ _ _ _ _ (fun h _ => absurd h hbN)]
        exact hOb _ v (hcs (i * 2 + j) v (by rwa [List.getElem?_drop] at hj)))
      (fun j hj => by rw [hWc]; exact Go.Proofs.isSome_setCells _ _ _ _ (fun t ht => hN _ (by omega)) _ (hN _ (by omega)))
      (fun j hj => by rw [hWf, World.frozen?_setCells]; exact hNf _) (fun v hv => h1c v (List.mem_of_mem_drop hv))
  subst hW1
  have hE1 : ∀ x, ((w.alloc (.cells ROW (ρ.t 9))).drew).cell? x = (w.drew.alloc (.cells ROW (ρ.t 9))).cell? x := fun x => rfl
  have hE2 : ∀ x, ((w.alloc (.cells ROW (ρ.t 9))).drew).frozen? x = (w.drew.alloc (.cells ROW (ρ.t 9))).frozen? x := fun x => rfl
  have hF1 : ∀ x, (((w.alloc (.cells ROW (ρ.t 9))).drew.setCells w.heap.size (i * 2) vs).drew).cell? x = ((w.drew.alloc (.cells ROW (ρ.t 9))).setCells w.heap.size (i * 2) vs).cell? x := fun x => rfl
  have hF2 : ∀ x, (((w.alloc (.cells ROW (ρ.t 9))).drew.setCells w.heap.size (i * 2) vs).drew).frozen? x = ((w.drew.alloc (.cells ROW (ρ.t 9))).setCells w.heap.size (i * 2) vs).frozen? x := fun x => rfl
  have hw0 : IntKind.i64.wrap ((n : Int) + 1) = (n : Int) + 1 := by rw [IntKind.wrap_i64]; omega
  have hw1 : IntKind.i64.wrap ((i : Int) + 1) = (i : Int) + 1 := by rw [IntKind.wrap_i64]; omega
  have hb1 : (0 : Int) ≤ (i : Int) + 1 := by omega
  have hin : i ≤ n := by omega
  have htn : ((i : Int) + 1).toNat = i + 1 := by omega
  have hb3 : (i : Int) ≤ (n : Int) := by omega
  clear hkk hik hold hROW hG hRl
  obtain ⟨_, _, FG⟩ := L.f22
  go_enter FG, Body2.n22_ntmps ρ
  go_wp2_with (first
    | (at_builtin; refine Lib.wpList_append_run _ rfl _ _ _ _ rfl _ _ rfl rfl _ _ (hrz _) ?_)
    | (at_builtin; refine wpList_copy_runI _ rfl _ _ (ρ.t 24) (ρ.t 24) rfl _ _ rfl rfl (hcpA _ hE1 hE2 _ _) ?_)
    | (at_builtin; refine wpList_copy_runI _ rfl _ _ (ρ.t 24) (ρ.t 24) rfl _ _ rfl rfl (hcpB _ (fun _ => rfl) (fun _ => rfl) _ _ _) ?_))
  go_region_law_o (refine step_copy_runI rfl _ _ (ρ.t 24) (ρ.t 24) rfl (.slice (some ⟨w.heap.size, (i + 1) * 2, none⟩) (n - i) (G - (i + 1))) (.slice (some ⟨b, i * 2, none⟩) (n - i) (c - i)) (by simp [Act.eval, Act.put]) (by simp [Act.eval, Act.put]) (hcpB _ hF1 hF2 (ρ.t 3) (G - (i + 1)) (c - i)) ?_)
  go_wp2
  go_ret
  exact ⟨rfl, rfl⟩
end
end Go.Fw

/- slices.Insert of one element of two cells, as a contract. Plain theorems, no condition. -/
set_option linter.unusedVariables false
set_option linter.unusedSimpArgs false
namespace Go.Fw
open Go Go.Shelf Go.RowKit Go.Lib Go.Proofs
section
variable {P : Program} {ρ : Ren} {z : Value}
theorem frozen0 {w : World} {b j : Nat} {cur : Array Value} {e : TypeId} (h : w.heap[b]? = some (.cells cur e (0, 0))) : w.frozen? ⟨b, j, none⟩ = false := by
  simp [World.frozen?, h]
theorem shape0 {w : World} {b : Nat} {cur : Array Value} {e : TypeId} {fr : Nat × Nat} (h : w.heap[b]? = some (.cells cur e fr)) : w.shape? b = some (e, cur.size) := by
  simp [World.shape?, h]
/-- Cells written one by one: the block told anew. -/
theorem setCells_row (P : Program) {w : World} {b o : Nat} {cur : Array Value} {e : TypeId} {vs : List Value} (h : w.heap[b]? = some (.cells cur e (0, 0))) (hl : o + vs.length ≤ cur.size) (h1 : ∀ v ∈ vs, v.oneCell' = true) :
    w.setCells b o vs = w.setRow b (cur.toList.take o ++ vs ++ cur.toList.drop (o + vs.length)).toArray := by
  have r1 := run_storeCells_cells (P := P) b o vs 0 w (fun j hj => by rw [Nat.add_zero, cell_at h, Array.getElem?_eq_getElem (by omega)]; rfl) (fun j hj => frozen0 h) h1
  have r2 := run_storeCells_at (P := P) b o e vs 0 cur w h (by omega) h1
  rw [r1] at r2
  simp only [Nat.add_zero] at r2
  injection r2
/-- A new row told: what stood ahead, the new one, what stood behind. -/
theorem ins_rel {w w' : World} {G G' : Nat → Prop} {xs : List A} {y : A} {cs vs : List Value} {i : Nat} {b : Nat} {cur : Array Value} {e : TypeId} {cap : Nat} (hi : i ≤ xs.length) (hw : ∀ x ∈ xs, x.width = 2) (hwy : y.width = 2)
    (hG : ∀ b, G b → G' b ∧ w'.heap[b]? = w.heap[b]?) (hc : RelL w G (flat xs) cs []) (hv : RelL w G (flat [y]) vs []) (h1c : ∀ v ∈ cs, cellV v = true) (h1v : ∀ v ∈ vs, cellV v = true)
    (hh : w'.heap[b]? = some (.cells cur e (0, 0))) (hs : cur.size = cap * 2) (hcap : xs.length + 1 ≤ cap) (hm : cap ≤ maxLen)
    (hcur : cur.toList.take ((xs.length + 1) * 2) = cs.take (i * 2) ++ vs ++ cs.drop (i * 2)) :
    Rel w' G' (.sl true 2 (xs.take i ++ y :: xs.drop i)) (.slice (some ⟨b, 0, none⟩) (xs.length + 1) cap) [b] := by
  have hlen : xs.length + 1 = (xs.take i ++ y :: xs.drop i).length := by simp; omega
  refine .ow (F := []) hh ?_ hlen hcur.symm ?_ (by omega) hm hs ?_
  · intro x hx
    rcases List.mem_append.1 hx with h | h
    · exact hw x (List.mem_of_mem_take h)
    · rcases List.mem_cons.1 h with rfl | h
      · exact hwy
      · exact hw x (List.mem_of_mem_drop h)
  · have e1 : flat (xs.take i ++ y :: xs.drop i) = (flat xs).take (i * 2) ++ (flat [y] ++ (flat xs).drop (i * 2)) := by
      rw [flat_take i hw, flat_drop i hw]
      simp [flat, List.flatMap_append]
    rw [e1, List.append_assoc]
    have k1 := (hc.take0 (i * 2)).move_ hG (by simp)
    have k2 := (hc.drop0 (i * 2)).move_ hG (by simp)
    exact k1.append ((hv.move_ hG (by simp)).append k2)
  · intro v hv'
    rcases List.mem_append.1 hv' with h | h
    · rcases List.mem_append.1 h with h | h
      · exact h1c v (List.mem_of_mem_take h)
      · exact h1v v h
    · exact h1c v (List.mem_of_mem_drop h)
theorem upd_shift {X cs vs : List Value} {i n : Nat} (hi : i ≤ n) (hX : (n + 1) * 2 ≤ X.length) (hc : cs.length = n * 2) (hv : vs.length = 2) (hp : X.take (i * 2) = cs.take (i * 2)) :
    ((X.take ((i + 1) * 2) ++ cs.drop (i * 2) ++ X.drop ((i + 1) * 2 + (cs.drop (i * 2)).length)).take (i * 2) ++ vs ++ (X.take ((i + 1) * 2) ++ cs.drop (i * 2) ++ X.drop ((i + 1) * 2 + (cs.drop (i * 2)).length)).drop (i * 2 + vs.length)).take ((n + 1) * 2) =
      cs.take (i * 2) ++ vs ++ cs.drop (i * 2) := by
  have h1 : (X.take ((i + 1) * 2)).length = (i + 1) * 2 := by rw [List.length_take]; omega
  have h2 : (cs.take (i * 2)).length = i * 2 := by rw [List.length_take]; omega
  have h3 : (cs.drop (i * 2)).length = (n - i) * 2 := by rw [List.length_drop]; omega
  generalize X.drop ((i + 1) * 2 + (cs.drop (i * 2)).length) = R
  have e1 : (X.take ((i + 1) * 2) ++ cs.drop (i * 2) ++ R).take (i * 2) = cs.take (i * 2) := by
    rw [List.append_assoc, List.take_append_of_le_length (by omega), List.take_take, Nat.min_eq_left (by omega), hp]
  have e2 : (X.take ((i + 1) * 2) ++ cs.drop (i * 2) ++ R).drop (i * 2 + vs.length) = cs.drop (i * 2) ++ R := by
    rw [List.append_assoc, hv]
    exact List.drop_left' (by omega)
  rw [e1, e2, ← List.append_assoc]
  exact List.take_left' (by simp only [List.length_append]; omega)
theorem upd_grow {X cs vs : List Value} {i n : Nat} (hi : i ≤ n) (hX : (n + 1) * 2 ≤ X.length) (hc : cs.length = n * 2) (hv : vs.length = 2) (hp : X.take (i * 2) = cs.take (i * 2)) (r : List Value) :
    ((X.take (i * 2) ++ vs ++ X.drop (i * 2 + vs.length)).take ((i + 1) * 2) ++ cs.drop (i * 2) ++ r).take ((n + 1) * 2) = cs.take (i * 2) ++ vs ++ cs.drop (i * 2) := by
  have h2 : (cs.take (i * 2)).length = i * 2 := by rw [List.length_take]; omega
  have h3 : (cs.drop (i * 2)).length = (n - i) * 2 := by rw [List.length_drop]; omega
  have e1 : (X.take (i * 2) ++ vs ++ X.drop (i * 2 + vs.length)).take ((i + 1) * 2) = cs.take (i * 2) ++ vs := by
    rw [hp]
    exact List.take_left' (by rw [List.length_append]; omega)
  rw [e1]
  exact List.take_left' (by simp only [List.length_append]; omega)
theorem zeros_size {zs : Array Value} (h : zs.size = 2) (k : Nat) : (Builtin.zeroCells zs k).size = k * 2 := by simp [Builtin.zeroCells, h]
theorem insE (L : InsL P ρ z) (hen : Enter P (ρ.f 22)) (xs : List A) (y : A) (i : Nat) (hi : i ≤ xs.length) (hb : xs.length ≤ 1048576) (hw : ∀ x ∈ xs, x.width = 2) (hwy : y.width = 2)
    (hno : (flat xs).all noOwn = true) (hny : (flat [y]).all noOwn = true) :
    ECtr P (ρ.f 22) [.sl true 2 xs, .sc (.int .i64 (i : Int)), .sl true 2 [y]] (.sl true 2 (xs.take i ++ y :: xs.drop i)) := by
  refine ⟨hen, fun w G vs F hG hnd hF hl => ?_⟩
  cases hl with
  | cons h1 hl =>
    rename_i v1 F1 vs1 Fs1
    cases hl with
    | cons h2 hl =>
      cases hl with
      | cons h3 hl =>
        cases hl
        cases h2
        cases h3 with
        | ow hh3 hw3 hlen3 hc3 hl3 hcap3 hm3 hs3 hv3 =>
          rename_i vb vlen vcap vcur ve vcs F3
          have e3 : F3 = [] := hl3.noOwn hny
          subst e3
          simp only [List.append_nil, List.nil_append] at *
          have hvlen : vlen = 1 := by simpa using hlen3
          subst hvlen
          have hvl : vcs.length = 2 := by
            rw [hl3.length]
            simpa [flat, A.width] using hwy
          have hvcell : ∀ j v, vcs[j]? = some v → w.cell? ⟨vb, j, none⟩ = some v := fun j v hj => by
            rw [cell_at hh3]
            rw [hc3, List.getElem?_take] at hj
            split at hj
            · simpa using hj
            · cases hj
          have hvbG : ¬ G vb := hF vb (by simp)
          cases h1 with
          | nils =>
            obtain rfl : i = 0 := by simpa using hi
            refine Calls.mono (ins_end_grow L none 0 0 vb vcap [] vcs w (Nat.le_refl _) (by omega) (by omega) rfl hvl (fun _ => rfl) (fun a ha => by cases ha) hvcell hv3) ?_
            rintro e w' ⟨rfl, rfl⟩
            have hG1 := grownCap_ge w (0 + 1) 0 (ρ.t 9)
            have hG2 := grownCap_le_maxLen w (0 + 1) 0 (ρ.t 9) (by simp [maxLen])
            refine ⟨_, [w.heap.size], rfl, ⟨rfl, rfl, rfl, by simp, fun k hk _ => heap_alloc_old w.drew _ hk⟩, by simp, fun b hb => .inr (by simp at hb; omega), ?_⟩
            have hg : ∀ b, G b → ((G b ∨ b ∈ [vb] ∨ (w.heap.size ≤ b ∧ b < (w.drew.alloc (.cells (([] ++ vcs).toArray ++ Builtin.zeroCells z.cells (grownCap w (0 + 1) 0 (ρ.t 9) - (0 + 1))) (ρ.t 9))).heap.size)) ∧ b ∉ [w.heap.size]) ∧ (w.drew.alloc (.cells (([] ++ vcs).toArray ++ Builtin.zeroCells z.cells (grownCap w (0 + 1) 0 (ρ.t 9) - (0 + 1))) (ρ.t 9))).heap[b]? = w.heap[b]? := fun b h => by
              have := hG.lt b h
              exact ⟨⟨.inl h, by simp; omega⟩, heap_alloc_old w.drew _ this⟩
            refine ins_rel (xs := []) (i := 0) (cs := []) (vs := vcs) (Nat.le_refl _) hw hwy hg .nil hl3 (by simp) hv3 (heap_alloc_new w.drew _) ?_ hG1 hG2 ?_
            · rw [Array.size_append, zeros_size L.zc]
              simp only [List.nil_append, List.size_toArray]
              omega
            · simp only [Array.toList_append, List.nil_append, List.take_nil, List.drop_nil, List.append_nil]
              exact List.take_left' (by rw [hvl]; rfl)
          | ow hh hw1 hlen1 hc1 hl1 hcap1 hm1 hs1 hv1 =>
            rename_i b len cap cur e cs F1
            have e1 : F1 = [] := hl1.noOwn hno
            subst e1
            subst hlen1
            have hcsl : cs.length = xs.length * 2 := by rw [hl1.length, flat_length hw]
            have hcell : ∀ j v, cs[j]? = some v → w.cell? ⟨b, j, none⟩ = some v := fun j v hj => by
              rw [cell_at hh]
              rw [hc1, List.getElem?_take] at hj
              split at hj
              · simpa using hj
              · cases hj
            have hbv : vb ≠ b := fun h => by
              subst h
              simp at hnd
            have hbG : ¬ G b := hF b (by simp)
            have hbl : b < w.heap.size := (Array.getElem?_eq_some_iff.1 hh).1
            have hcap63 : cap ≤ 9223372036854775807 := by simpa [maxLen] using hm1
            have hz1 : cs.take (xs.length * 2) = cs := List.take_of_length_le (by omega)
            have hz2 : cs.drop (xs.length * 2) = [] := List.drop_eq_nil_of_le (by omega)
            have hcst : ∀ k, k * 2 ≤ xs.length * 2 → cur.toList.take (k * 2) = cs.take (k * 2) := fun k hk => by
              rw [hc1, List.take_take, Nat.min_eq_left hk]
            have hcul : cur.toList.length = cap * 2 := by rw [Array.length_toList, hs1]
            by_cases hroom : xs.length + 1 ≤ cap
            · by_cases hin : i = xs.length
              · subst hin
                refine Calls.mono (ins_end_room L b xs.length cap vb vcap vcs w hroom hcap63 hvl (fun j hj => by rw [cell_at hh, Array.getElem?_eq_getElem (by omega)]; rfl) (fun j hj => frozen0 hh) hvcell hv3) ?_
                rintro e' w' ⟨rfl, rfl⟩
                rw [setCells_row P hh (by omega) hv3]
                refine ⟨_, [b], rfl, ⟨rfl, rfl, rfl, by simp, fun k _ hk => setRow_other w b k _ (by simp at hk; exact hk.1)⟩, by simp, fun c hc => .inl (by simp at hc; simp [hc]), ?_⟩
                have hrow := setRow_heap w b cur (cur.toList.take (xs.length * 2) ++ vcs ++ cur.toList.drop (xs.length * 2 + vcs.length)).toArray e (0, 0) hh
                refine ins_rel (Nat.le_refl _) hw hwy (fun c hc => ?_) hl1 hl3 hv1 hv3 hrow ?_ hroom hm1 ?_
                · have hcb : c ≠ b := fun h => hbG (h ▸ hc)
                  exact ⟨⟨.inl hc, by simpa using hcb⟩, setRow_other w b c _ hcb⟩
                · simp only [List.size_toArray, List.length_append, List.length_take, List.length_drop, hvl, hcul]
                  omega
                · rw [hz1, hz2, List.append_nil, ← hc1]
                  exact List.take_left' (l₁ := cs ++ vcs) (by rw [List.length_append, hcsl, hvl]; omega)
              · have hlt : i < xs.length := by omega
                refine Calls.mono (ins_shift L b xs.length cap i vb vcap cs vcs w hlt hroom hcap63 hbv hcsl hvl hcell (fun j hj => by rw [cell_at hh, Array.getElem?_eq_getElem (by omega)]; rfl) (fun j hj => frozen0 hh) hvcell hv1 hv3 _ _ _ _ (shape0 hh3) (shape0 hh) (by omega) (frozen0 hh3) (frozen0 hh3)) ?_
                rintro e' w' ⟨rfl, rfl⟩
                have hdl : (cs.drop (i * 2)).length = (xs.length - i) * 2 := by rw [List.length_drop]; omega
                have h0 : w.drew.heap[b]? = some (.cells cur e (0, 0)) := hh
                rw [setCells_row P h0 (by omega) (fun v hv => hv1 v (List.mem_of_mem_drop hv))]
                have hrow1 := setRow_heap w.drew b cur (cur.toList.take ((i + 1) * 2) ++ cs.drop (i * 2) ++ cur.toList.drop ((i + 1) * 2 + (cs.drop (i * 2)).length)).toArray e (0, 0) h0
                have hsz1 : (cur.toList.take ((i + 1) * 2) ++ cs.drop (i * 2) ++ cur.toList.drop ((i + 1) * 2 + (cs.drop (i * 2)).length)).toArray.size = cap * 2 := by
                  simp only [List.size_toArray, List.length_append, List.length_take, List.length_drop, hcul]
                  omega
                rw [setCells_row P hrow1 (by omega) hv3]
                refine ⟨_, [b], rfl, ⟨rfl, rfl, rfl, by simp, fun k _ hk => ?_⟩, by simp, fun c hc => .inl (by simp at hc; simp [hc]), ?_⟩
                · have hkb : k ≠ b := by simp at hk; exact hk.1
                  rw [setRow_other _ b k _ hkb, setRow_other _ b k _ hkb]; rfl
                · have hrow2 := setRow_heap _ b _ ((cur.toList.take ((i + 1) * 2) ++ cs.drop (i * 2) ++ cur.toList.drop ((i + 1) * 2 + (cs.drop (i * 2)).length)).take (i * 2) ++ vcs ++ (cur.toList.take ((i + 1) * 2) ++ cs.drop (i * 2) ++ cur.toList.drop ((i + 1) * 2 + (cs.drop (i * 2)).length)).drop (i * 2 + vcs.length)).toArray e (0, 0) hrow1
                  refine ins_rel (Nat.le_of_lt hlt) hw hwy (fun c hc => ?_) hl1 hl3 hv1 hv3 hrow2 ?_ hroom hm1 ?_
                  · have hcb : c ≠ b := fun h => hbG (h ▸ hc)
                    refine ⟨⟨.inl hc, by simpa using hcb⟩, ?_⟩
                    rw [setRow_other _ b c _ hcb, setRow_other _ b c _ hcb]; rfl
                  · simp only [List.size_toArray, List.length_append, List.length_take, List.length_drop, hvl, hcul]
                    omega
                  · exact upd_shift (Nat.le_of_lt hlt) (by rw [hcul]; omega) hcsl hvl (hcst i (by omega))
            · by_cases hin : i = xs.length
              · subst hin
                have hG1 := grownCap_ge w (xs.length + 1) cap (ρ.t 9)
                have hG2 := grownCap_le_maxLen w (xs.length + 1) cap (ρ.t 9) (by simp [maxLen]; omega)
                refine Calls.mono (ins_end_grow L (some ⟨b, 0, none⟩) xs.length cap vb vcap cs vcs w (by omega) (by omega) (by omega) hcsl hvl (fun h => by cases h) (fun a ha j v hj => by cases ha; rw [Addr.add_lit, Nat.zero_add]; exact hcell j v hj) hvcell hv3) ?_
                rintro e' w' ⟨rfl, rfl⟩
                refine ⟨_, [w.heap.size], rfl, ⟨rfl, rfl, rfl, by simp, fun k hk _ => heap_alloc_old w.drew _ hk⟩, by simp, fun b hb => .inr (by simp at hb; omega), ?_⟩
                refine ins_rel (Nat.le_refl _) hw hwy (fun c hc => ?_) hl1 hl3 hv1 hv3 (heap_alloc_new w.drew _) ?_ hG1 hG2 ?_
                · have := hG.lt c hc
                  exact ⟨⟨.inl hc, by simp; omega⟩, heap_alloc_old w.drew _ this⟩
                · rw [Array.size_append, zeros_size L.zc]
                  simp only [List.size_toArray, List.length_append]
                  omega
                · rw [hz1, hz2, List.append_nil]
                  simp only [Array.toList_append]
                  exact List.take_left' (l₁ := cs ++ vcs) (by rw [List.length_append, hcsl, hvl]; omega)
              · have hlt : i < xs.length := by omega
                have hG1 := grownCap_ge w (xs.length + 1) cap (ρ.t 9)
                have hG2 := grownCap_le_maxLen w (xs.length + 1) cap (ρ.t 9) (by simp [maxLen]; omega)
                refine Calls.mono (ins_grow L b xs.length cap i vb vcap cs vcs w hlt (by omega) (by omega) (by omega) hcsl hvl hcell hvcell hv1 hv3) ?_
                rintro e' w' ⟨rfl, rfl⟩
                generalize grownCap w (xs.length + 1) cap (ρ.t 9) = C at hG1 hG2 ⊢
                have hdl : (cs.drop (i * 2)).length = (xs.length - i) * 2 := by rw [List.length_drop]; omega
                obtain ⟨ROW, hROW⟩ : ∃ ROW : Array Value, ROW = (cs.take (i * 2)).toArray ++ Builtin.zeroCells z.cells (xs.length + 1 - i) ++ Builtin.zeroCells z.cells (C - (xs.length + 1)) := ⟨_, rfl⟩
                have hRs : ROW.toList.length = C * 2 := by
                  rw [Array.length_toList, hROW, Array.size_append, Array.size_append, zeros_size L.zc, zeros_size L.zc]
                  simp only [List.size_toArray, List.length_take]
                  omega
                have hRp : ROW.toList.take (i * 2) = cs.take (i * 2) := by
                  rw [hROW, Array.toList_append, Array.toList_append, List.append_assoc]
                  exact List.take_left' (by simp only [List.length_take]; omega)
                rw [← hROW]
                clear hROW
                have h0 : (w.alloc (.cells ROW (ρ.t 9))).drew.heap[w.heap.size]? = some (.cells ROW (ρ.t 9) (0, 0)) := heap_alloc_new w _
                rw [setCells_row P h0 (by rw [← Array.length_toList]; omega) hv3]
                have hrow1 := setRow_heap (w.alloc (.cells ROW (ρ.t 9))).drew w.heap.size ROW (ROW.toList.take (i * 2) ++ vcs ++ ROW.toList.drop (i * 2 + vcs.length)).toArray (ρ.t 9) (0, 0) h0
                have hsz1 : (ROW.toList.take (i * 2) ++ vcs ++ ROW.toList.drop (i * 2 + vcs.length)).toArray.size = C * 2 := by
                  simp only [List.size_toArray, List.length_append, List.length_take, List.length_drop, hRs]
                  omega
                generalize hW1 : (w.alloc (.cells ROW (ρ.t 9))).drew.setRow w.heap.size (ROW.toList.take (i * 2) ++ vcs ++ ROW.toList.drop (i * 2 + vcs.length)).toArray = W1 at hrow1 ⊢
                have hold : ∀ k, k < w.heap.size → W1.heap[k]? = w.heap[k]? := fun k hk => by
                  rw [← hW1, setRow_other _ _ k _ (by omega)]
                  exact heap_alloc_old w _ hk
                have hW1o : W1.os = w.os ∧ W1.tape = w.tape ∧ W1.output = w.output ∧ w.heap.size ≤ W1.heap.size := by
                  rw [← hW1]
                  exact ⟨rfl, rfl, rfl, by simp⟩
                clear hW1
                have hrow1' : W1.drew.heap[w.heap.size]? = _ := hrow1
                rw [setCells_row P hrow1' (by omega) (fun v hv => hv1 v (List.mem_of_mem_drop hv))]
                have hrow2 := setRow_heap W1.drew w.heap.size _ ((ROW.toList.take (i * 2) ++ vcs ++ ROW.toList.drop (i * 2 + vcs.length)).take ((i + 1) * 2) ++ cs.drop (i * 2) ++ (ROW.toList.take (i * 2) ++ vcs ++ ROW.toList.drop (i * 2 + vcs.length)).drop ((i + 1) * 2 + (cs.drop (i * 2)).length)).toArray (ρ.t 9) (0, 0) hrow1'
                have hlt' := (Array.getElem?_eq_some_iff.1 hrow2).1
                refine ⟨_, [w.heap.size], rfl, ⟨hW1o.1, hW1o.2.1, hW1o.2.2.1, ?_, fun k hk _ => ?_⟩, by simp, fun b hb => .inr (by simp at hb; omega), ?_⟩
                · simpa using hW1o.2.2.2
                · rw [setRow_other _ _ k _ (by omega)]
                  exact hold k hk
                · refine ins_rel (Nat.le_of_lt hlt) hw hwy (fun c hc => ?_) hl1 hl3 hv1 hv3 hrow2 ?_ hG1 hG2 ?_
                  · have := hG.lt c hc
                    refine ⟨⟨.inl hc, by simp; omega⟩, ?_⟩
                    rw [setRow_other _ _ c _ (by omega)]
                    exact hold c this
                  · simp only [List.size_toArray, List.length_append, List.length_take, List.length_drop, hvl, hRs]
                    omega
                  · exact upd_grow (Nat.le_of_lt hlt) (by rw [hRs]; omega) hcsl hvl hRp _
end
end Go.Fw

/- slices.Insert at impl.File, as a contract. Plain theorems. -/
set_option linter.unusedVariables false
set_option linter.unusedSimpArgs false
namespace Go.Proofs
open Go.Shelf
def Tryz.insF_ren : Go.Shelf.Ren := ⟨fun | 22 => 145 | 29 => 191 | 30 => 192 | 36 => 229 | 17 => 256 | n => n, fun | 24 => 35 | 9 => 110 | 3 => 3 | 4 => 4 | 0 => 0 | n => n, fun | n => n⟩
theorem Tryz.insF : Go.Fw.InsL Tryz.prog Tryz.insF_ren (.agg #[.string ⟨#[]⟩, .slice none 0 0]) where
  mixed := by kernel_rfl
  f22 := ⟨"slices.Insert[[]loop.example/g00090/impl.File,loop.example/g00090/impl.File]", by decide, Tryz.func145.trans (congrArg some (by kernel_rfl))⟩
  ov := fun args w => run_callFunc_extern Tryz.func191 (by kernel_rfl) (by kernel_rfl) (by kernel_rfl) (by kernel_rfl) args w
  t0 := Tryz.underlying0
  a0 := Tryz.isAgg0
  z0 := Tryz.sizeOf0
  v0 := Tryz.zeroValue0
  t3 := Tryz.underlying3
  a3 := Tryz.isAgg3
  z3 := Tryz.sizeOf3
  v3 := Tryz.zeroValue3
  t4 := Tryz.underlying4
  a4 := Tryz.isAgg4
  z4 := Tryz.sizeOf4
  v4 := Tryz.zeroValue4
  z9 := Tryz.sizeOf110
  t24 := Tryz.underlying35
  a24 := Tryz.isAgg35
  z24 := Tryz.sizeOf35
  v24 := Tryz.zeroValue35
  i9 := by kernel_rfl
  zc := rfl

end Go.Proofs
namespace Go.Proofs.YtljjcffnomdhhaaGreatDoor
open Go Go.Fw Go.Proofs
theorem c_InsertA (xs : List A) (y : A) (i : Nat) (hi : i ≤ xs.length) (hb : xs.length ≤ 1048576) (hw : ∀ x ∈ xs, x.width = 2) (hwy : y.width = 2) (hno : (flat xs).all noOwn = true) (hny : (flat [y]).all noOwn = true) :
    ECtr PP n_slices_Insert_L_impl_File_impl_File [.sl true 2 xs, .sc (.int .i64 (i : Int)), .sl true 2 [y]] (.sl true 2 (xs.take i ++ y :: xs.drop i)) :=
  insE Tryz.insF fn_slices_Insert_L_impl_File_impl_File.1 xs y i hi hb hw hwy hno hny
end Go.Proofs.YtljjcffnomdhhaaGreatDoor

/- Walks: a file put. Plain theorems. -/
set_option linter.unusedVariables false
set_option linter.unusedSimpArgs false
namespace Go.Proofs.YtljjcffnomdhhaaGreatDoor
open Go Go.Fw
set_option maxRecDepth 100000
theorem frz_encF (f : Fil) : frz (f.enc false) = f.enc false := by unfold Fil.enc; rw [frz_agg]; simp only [List.map_cons, List.map_nil, frz_sl, frz_bytes]; rfl
/-- A file put, in cells. -/
theorem put_facts (l : List Fil) (p d : List UInt8) (h : plcF l p ≤ l.length) :
    (hasF l p = false → ∃ L, L = (l.map (Fil.enc false)).take (plcF l p) ++ .agg [str p, .nil] :: (l.map (Fil.enc false)).drop (plcF l p) ∧ L.length = l.length + 1 ∧ L[plcF l p]? = some (.agg [str p, .nil]) ∧ L.set (plcF l p) (.agg [str p, .sl false 1 (d.map byteA)]) = (putF l ⟨p, d⟩).map (Fil.enc false)) ∧
    (hasF l p = true → ∃ z, (l.map (Fil.enc false))[plcF l p]? = some (.agg [str p, .sl false 1 z]) ∧ (l.map (Fil.enc false)).set (plcF l p) (.agg [str p, .sl false 1 (d.map byteA)]) = (putF l ⟨p, d⟩).map (Fil.enc false)) := by
  unfold putF
  dsimp only
  constructor
  · intro e
    rw [e]
    refine ⟨_, rfl, ?_, ?_, ?_⟩
    · rw [← List.map_take, ← List.map_drop]; simp; omega
    · have e : ((l.map (Fil.enc false)).take (plcF l p)).length = plcF l p := by rw [List.length_take, List.length_map]; omega
      rw [List.getElem?_append_right (Nat.le_of_eq e), e, Nat.sub_self]; rfl
    · have e : ((l.map (Fil.enc false)).take (plcF l p)).length = plcF l p := by rw [List.length_take, List.length_map]; omega
      rw [List.set_append_right _ _ (Nat.le_of_eq e), e, Nat.sub_self, ← List.map_take, ← List.map_drop]
      simp [Fil.enc]
  · intro e
    rw [e]
    unfold hasF at e
    split at e <;> try (cases e; done)
    rename_i f hf
    have hp : f.p = p := by simpa using e
    refine ⟨f.d.map byteA, by rw [List.getElem?_map, hf, ← hp]; rfl, ?_⟩
    have hlt := (List.getElem?_eq_some_iff.1 hf).1
    rw [List.set_eq_take_append_cons_drop, if_pos (by simpa using hlt), ← List.map_take, ← List.map_drop]
    simp; rfl
theorem c_put (x : Dsk) (p d : List UInt8) (hx : x.f.length ≤ 100000) (ho : ordF x.f) (hd : d.length ≤ 1048576) :
    MCtr PP n_impl_Disk_put [.bx [.sl true 2 (x.f.map (Fil.enc false)), i64 x.bg, i64 x.wr, i64 x.st, boo x.dn], str p, .sl false 1 (d.map byteA)] (.tup [])
      [.bx [.sl true 2 ((putF x.f ⟨p, d⟩).map (Fil.enc false)), i64 x.bg, i64 x.wr, i64 x.st, boo x.dn], str p, .sl false 1 (d.map byteA)] := by
  obtain ⟨Ω, hΩ⟩ : ∃ Ω, Ω = std := ⟨_, rfl⟩
  have hpl := c_place x p (by omega) ho
  have hcl := c_CloneB d hd
  have hrb := roF_B d
  have hfb := frz_B1 d
  have hkl := plcF_le x.f p
  obtain ⟨hf0, hf1⟩ := put_facts x.f p d hkl
  unfold Dsk.enc at hpl
  have hlen : (x.f.map (Fil.enc false)).length = x.f.length := List.length_map ..
  obtain ⟨fs, hfs⟩ : ∃ fs, fs = x.f.map (Fil.enc false) := ⟨_, rfl⟩
  have hno : (flat fs).all noOwn = true := by
    rw [hfs, List.all_eq_true]
    intro y hy
    obtain ⟨x0, hx0, hy⟩ := List.mem_flatMap.1 hy
    obtain ⟨f, _, rfl⟩ := List.mem_map.1 hx0
    simp only [Fil.enc, A.cells, List.mem_cons, List.not_mem_nil, or_false] at hy
    rcases hy with rfl | rfl <;> rfl
  have hw : ∀ y ∈ fs, y.width = 2 := by
    rw [hfs]; intro y hy
    obtain ⟨f, _, rfl⟩ := List.mem_map.1 hy
    rfl
  have hfz : fs.map frz = fs := by rw [hfs, List.map_map]; exact List.map_congr_left fun f _ => frz_encF f
  rw [← hfs] at hpl hlen hf0 hf1 ⊢
  obtain ⟨ds, hds⟩ : ∃ ds, ds = d.map byteA := ⟨_, rfl⟩
  rw [← hds] at hcl hrb hfb hf0 hf1 ⊢
  generalize (putF x.f ⟨p, d⟩).map (Fil.enc false) = Q at *
  generalize hasF x.f p = b at *
  generalize plcF x.f p = k at *
  have hin := c_InsertA fs (.agg [str p, .nil]) k (by omega) (by omega) hw rfl hno rfl
  obtain ⟨z, hz⟩ : ∃ z : Int, z = ((k : Nat) : Int) := ⟨_, rfl⟩
  rw [← hz] at hpl hin
  have hz0 : 0 ≤ z := by omega
  have hzk : ∀ n : Nat, k < n → z < (n : Int) := fun n h => by omega
  have hzn : Ω.plus 0 (Ω.nat z) = k := by subst hΩ; show 0 + z.toNat = k; omega
  generalize x.bg = v1 at *
  generalize x.wr = v2 at *
  generalize x.st = v3 at *
  generalize x.dn = v4 at *
  have lo : Ω.len fs = fs.length := by subst hΩ; rfl
  have hfz2 : frz (.sl true 1 ds) = .sl false 1 ds := by rw [frz_sl, hfb]
  have htab := tab
  have hmo := hmo
  refine MCtr.walkOE tab hΩ 4 fn_impl_Disk_put rfl rfl rfl (S0 := ⟨[(0, .pt 0 0 0), (1, str p), (2, .sl false 1 ds), (39, .pt 0 0 0), (40, str p), (41, .sl false 1 ds)], 39, [some ⟨5, [.agg [.vw 1 0 (Ω.len fs), i64 v1, i64 v2, i64 v3, boo v4]], true⟩, some ⟨2, fs, false⟩]⟩)
    ((Sbs.ownCell (r := 0) (j := 0) (q := 0) (n := 2) (ys := fs) rfl rfl rfl rfl rfl).trans (Sbs.mk rfl (by subst hΩ; rfl) ⟨rfl, rfl, rfl, rfl, rfl, rfl, trivial⟩)) (K0 := fun e S' => ∃ S'', Sbs S' S'' ∧ outM Ω T 39 [] (.tup [])
      [.bx [.sl true 2 Q, i64 v1, i64 v2, i64 v3, boo v4], str p, .sl false 1 ds] e S'') ?_ (fun _ _ h => h)
  generalize PP = P at *
  cbv
  refine call_pure hΩ 4 hpl (mapO2 (ro_agg5 (ro_vw rfl lo hfz) rfl rfl rfl rfl) rfl) (fits _) rfl rfl ?_
  cbv
  refine br (fun h => ?_) (fun h => ?_) <;> cbv
  · have hb : b = false := notA hΩ h
    obtain ⟨L, hL, hLl, hLk, hLs⟩ := hf0 hb
    rw [← hL] at hin
    have hLz : L[Ω.plus 0 (Ω.nat z)]? = some (.agg [str p, .nil]) := by rw [hzn]; exact hLk
    have hLlo : Ω.len L = L.length := by subst hΩ; rfl
    have hQL : Q.length = L.length := by rw [← hLs, List.length_set]
    have hQl : Ω.len L ≤ Q.length := by omega
    have hQr : Q.length ≤ Ω.len L := by omega
    have hzl : z < ((Ω.len L : Nat) : Int) := hzk _ (by omega)
    refine call_eat hΩ 4 hin ?_
    cbv
    refine ⟨⟨rfl, by show Ω.len fs ≤ fs.length; omega⟩, ⟨rfl, Nat.le_refl _⟩, FitLX.of (by subst hΩ; show [A.sl true 2 (fs.take fs.length), i64 z, A.sl true 2 [A.agg [str p, .nil]]] = _; rw [List.take_length]; rfl), ?_⟩
    refine ⟨VC_pl htab hΩ hmo (.qs [0, 1, 2, 4, 5] (.two 3 (.s 6 (.qs [7, 8] (.s 9 .fin))) 6 (.s 3 (.qs [7, 8] (.s 9 .fin))))) (by kernel_rfl) ?_⟩
    cbv
    refine ⟨?_, ?_⟩
    all_goals (refine call_pf hΩ 4 hcl rfl (fits _) hrb hfz2 rfl ?_; cbv)
    all_goals (refine ⟨⟨⟨hz0, hzl⟩⟩, _, hLz, ?_⟩; cbv)
    all_goals (refine ⟨_, Sbs.trans (Sbs.mk (S' := ⟨[(39, .pt 0 0 0), (40, str p), (41, .sl false 1 ds)], 39, [some ⟨5, [.agg [.vw 3 0 (Ω.len L), i64 v1, i64 v2, i64 v3, boo v4]], true⟩, none, none, some ⟨2, Q, false⟩]⟩) rfl (by rw [← hLs, ← hzn]; subst hΩ; rfl) ⟨rfl, rfl, rfl, trivial⟩) (Sbs.foldCell (r := 0) (j := 0) (q := 0) (r2 := 3) rfl rfl rfl rfl hQl (List.take_of_length_le hQr) rfl rfl rfl), ?_⟩; cbv)
    all_goals exact ⟨.same, .same⟩
  · have hb : b = true := notB hΩ h
    obtain ⟨z1, hfk, hfs2⟩ := hf1 hb
    have hLz : fs[Ω.plus 0 (Ω.nat z)]? = some (.agg [str p, .sl false 1 z1]) := by rw [hzn]; exact hfk
    have hkf := (List.getElem?_eq_some_iff.1 hfk).1
    have hQL : Q.length = fs.length := by rw [← hfs2, List.length_set]
    have hQl : Ω.len fs ≤ Q.length := by omega
    have hQr : Q.length ≤ Ω.len fs := by omega
    have hzl : z < ((Ω.len fs : Nat) : Int) := hzk _ (by omega)
    have hLs := hfs2
    refine ⟨VC_pl htab hΩ hmo (.qs [0, 1, 2, 4, 5] (.two 3 (.s 6 (.qs [7, 8] (.s 9 .fin))) 6 (.s 3 (.qs [7, 8] (.s 9 .fin))))) (by kernel_rfl) ?_⟩
    cbv
    refine ⟨?_, ?_⟩
    all_goals (refine call_pf hΩ 4 hcl rfl (fits _) hrb hfz2 rfl ?_; cbv)
    all_goals (refine ⟨⟨⟨hz0, hzl⟩⟩, _, hLz, ?_⟩; cbv)
    all_goals (refine ⟨_, Sbs.trans (Sbs.mk (S' := ⟨[(39, .pt 0 0 0), (40, str p), (41, .sl false 1 ds)], 39, [some ⟨5, [.agg [.vw 1 0 (Ω.len fs), i64 v1, i64 v2, i64 v3, boo v4]], true⟩, some ⟨2, Q, false⟩]⟩) rfl (by rw [← hLs, ← hzn]; subst hΩ; rfl) ⟨rfl, rfl, rfl, trivial⟩) (Sbs.foldCell (r := 0) (j := 0) (q := 0) (r2 := 1) rfl rfl rfl rfl hQl (List.take_of_length_le hQr) rfl rfl rfl), ?_⟩; cbv)
    all_goals exact ⟨.same, .same⟩
end Go.Proofs.YtljjcffnomdhhaaGreatDoor

/- Walks: a file laid, by the reference. Plain theorems. -/
set_option linter.unusedVariables false
set_option linter.unusedSimpArgs false
namespace Go.Proofs.YtljjcffnomdhhaaGreatDoor
open Go Go.Fw
set_option maxRecDepth 100000
theorem mapO5 {f : A → Option A} {a b c d e a' b' c' d' e' : A} (ha : f a = some a') (hb : f b = some b') (hc : f c = some c') (hd : f d = some d') (he : f e = some e') : mapO f [a, b, c, d, e] = some [a', b', c', d', e'] := by simp [mapO, ha, hb, hc, hd, he]
theorem plc_at : ∀ {l : List Fil} {p : List UInt8} {i : Nat} {f : Fil}, l[i]? = some f → i ≤ plcF l p → (f.p < p → i < plcF l p) ∧ (¬ f.p < p → i = plcF l p)
  | [], _, _, _, h, _ => by simp at h
  | g :: l, p, i, f, h, hi => by
    rw [plcF_cons] at hi ⊢
    by_cases e : g.p < p
    · rw [if_pos e] at hi ⊢
      cases i with
      | zero =>
        simp at h; subst h
        exact ⟨fun _ => Nat.succ_pos _, fun h => absurd e h⟩
      | succ i =>
        obtain ⟨h1, h2⟩ := plc_at (l := l) (p := p) (i := i) (by simpa using h) (by omega)
        exact ⟨fun h => Nat.succ_lt_succ (h1 h), fun h => congrArg Nat.succ (h2 h)⟩
    · rw [if_neg e] at hi ⊢
      obtain rfl : i = 0 := by omega
      simp at h; subst h
      exact ⟨fun h => absurd h e, fun _ => rfl⟩
theorem ltS_t {Ω : Opq} (hΩ : Ω = std) {x y : List UInt8} (h : Ω.ite true (Ω.cmpS .lss x y) false = true) : x < y := by
  subst hΩ
  have h : Op.bytesLess x y = true := h
  rw [Go.Proofs.bytesLess_eq] at h
  simpa using h
theorem ltS_f {Ω : Opq} (hΩ : Ω = std) {x y : List UInt8} (h : Ω.ite true (Ω.cmpS .lss x y) false = false) : ¬ x < y := by
  subst hΩ
  have h : Op.bytesLess x y = false := h
  rw [Go.Proofs.bytesLess_eq] at h
  simpa using h
theorem c_l14Lay (x : Dsk) (p d : List UInt8) (hx : x.f.length ≤ 100000) (ho : ordF x.f) (hd : d.length ≤ 1048576) :
    MCtr PP n_spec_l14Lay [.bx [.sl true 2 (x.f.map (Fil.enc false)), i64 x.bg, i64 x.wr, i64 x.st, boo x.dn], str p, .sl false 1 (d.map byteA)] (.tup [])
      [.bx [.sl true 2 ((putF x.f ⟨p, d⟩).map (Fil.enc false)), i64 x.bg, i64 x.wr, i64 x.st, boo x.dn], str p, .sl false 1 (d.map byteA)] := by
  obtain ⟨Ω, hΩ⟩ : ∃ Ω, Ω = std := ⟨_, rfl⟩
  have hfd := c_l7Find x p (by omega)
  have hkl := plcF_le x.f p
  obtain ⟨hf0, hf1⟩ := put_facts x.f p d hkl
  have hfn : fndF x.f p = if hasF x.f p then ((0 + plcF x.f p : Nat) : Int) else -1 := fndF_of ho
  have hpl := fun i f => plc_at (l := x.f) (p := p) (i := i) (f := f)
  unfold Dsk.see at hfd
  have hlen : (x.f.map (Fil.enc false)).length = x.f.length := List.length_map ..
  obtain ⟨fs, hfs⟩ : ∃ fs, fs = x.f.map (Fil.enc false) := ⟨_, rfl⟩
  have hno : (flat fs).all noOwn = true := by
    rw [hfs, List.all_eq_true]
    intro y hy
    obtain ⟨x0, hx0, hy⟩ := List.mem_flatMap.1 hy
    obtain ⟨f, _, rfl⟩ := List.mem_map.1 hx0
    simp only [Fil.enc, A.cells, List.mem_cons, List.not_mem_nil, or_false] at hy
    rcases hy with rfl | rfl <;> rfl
  have hno2 : ∀ y ∈ fs, noOwn y = true ∧ y.width = 2 := by
    rw [hfs]; intro y hy
    obtain ⟨f, _, rfl⟩ := List.mem_map.1 hy
    exact ⟨rfl, rfl⟩
  have hok : ∀ y ∈ flat fs, okCell y = true := by
    rw [hfs]; intro y hy
    obtain ⟨x0, hx0, hy⟩ := List.mem_flatMap.1 hy
    obtain ⟨f, _, rfl⟩ := List.mem_map.1 hx0
    simp only [Fil.enc, A.cells, List.mem_cons, List.not_mem_nil, or_false] at hy
    rcases hy with rfl | rfl <;> rfl
  have hag : ∀ z ∈ fs, isAggN 2 z = true := by
    rw [hfs]; intro y hy
    obtain ⟨f, _, rfl⟩ := List.mem_map.1 hy
    rfl
  have hfz : fs.map frz = fs := by rw [hfs, List.map_map]; exact List.map_congr_left fun f _ => frz_encF f
  rw [← hfs] at hfd hlen hf0 hf1 ⊢
  obtain ⟨ds, hds⟩ : ∃ ds, ds = d.map byteA := ⟨_, rfl⟩
  rw [← hds] at hf0 hf1 ⊢
  generalize (putF x.f ⟨p, d⟩).map (Fil.enc false) = Q at *
  obtain ⟨b, hb⟩ : ∃ b, b = hasF x.f p := ⟨_, rfl⟩
  obtain ⟨k, hk⟩ : ∃ k, k = plcF x.f p := ⟨_, rfl⟩
  rw [← hb] at hf0 hf1 hfn
  rw [← hk] at hf0 hf1 hfn hkl
  simp only [← hk] at hpl
  obtain ⟨z, hz⟩ : ∃ z : Int, z = fndF x.f p := ⟨_, rfl⟩
  rw [← hz] at hfd hfn
  have hz0 : b = true → 0 ≤ z ∧ Ω.plus 0 (Ω.nat z) = k ∧ ∀ n : Nat, k < n → z < (n : Int) := fun e => by
    rw [e, if_pos rfl] at hfn
    refine ⟨by omega, ?_, fun n h => by omega⟩
    subst hΩ; show 0 + z.toNat = k; omega
  have hz1 : b = false → z < 0 := fun e => by rw [e] at hfn; simp at hfn; omega
  clear hfn hz hb hk
  generalize x.bg = v1 at *
  generalize x.wr = v2 at *
  generalize x.st = v3 at *
  generalize x.dn = v4 at *
  generalize x.f = l at *
  have lo : Ω.len fs = fs.length := by subst hΩ; rfl
  have lo' : ∀ ys, Ω.len ys = ys.length := fun ys => by subst hΩ; rfl
  have htab := tab
  have hmo := hmo
  refine MCtr.walkOE tab hΩ 4 fn_spec_l14Lay rfl rfl rfl (S0 := ⟨[(0, .pt 0 0 0), (1, str p), (2, .sl false 1 ds), (66, .pt 0 0 0), (67, str p), (68, .sl false 1 ds)], 66, [some ⟨5, [.agg [.vw 1 0 (Ω.len fs), i64 v1, i64 v2, i64 v3, boo v4]], true⟩, some ⟨2, fs, false⟩]⟩)
    ((Sbs.ownCell (r := 0) (j := 0) (q := 0) (n := 2) (ys := fs) rfl rfl rfl rfl rfl).trans (Sbs.mk rfl (by subst hΩ; rfl) ⟨rfl, rfl, rfl, rfl, rfl, rfl, trivial⟩)) (K0 := fun e S' => ∃ S'', Sbs S' S'' ∧ outM Ω T 66 [] (.tup [])
      [.bx [.sl true 2 Q, i64 v1, i64 v2, i64 v3, boo v4], str p, .sl false 1 ds] e S'') ?_ (fun _ _ h => h)
  generalize PP = P at *
  cbv
  refine call_pure hΩ 4 hfd (mapO2 (roPt rfl (mapO5 (ro_vw rfl lo hfz) rfl rfl rfl rfl)) rfl) (fits _) rfl rfl ?_
  cbv
  refine br (fun h => ?_) (fun h => ?_) <;> cbv
  · replace h := geZt hΩ h
    have hb : b = true := by
      cases b with
      | true => rfl
      | false => have := hz1 rfl; omega
    obtain ⟨z0, zn, zk⟩ := hz0 hb
    obtain ⟨z1, hfk, hfs2⟩ := hf1 hb
    have hLz : fs[Ω.plus 0 (Ω.nat z)]? = some (.agg [str p, .sl false 1 z1]) := by rw [zn]; exact hfk
    have hkf := (List.getElem?_eq_some_iff.1 hfk).1
    have hQL : Q.length = fs.length := by rw [← hfs2, List.length_set]
    have hQl : Ω.len fs ≤ Q.length := by omega
    have hQr : Q.length ≤ Ω.len fs := by omega
    have hzl : z < ((Ω.len fs : Nat) : Int) := zk _ (by omega)
    refine ⟨VC_pl htab hΩ hmo (.qs [0, 1, 2, 4] (.two 3 (.s 5 (.q 6 (.s 7 .fin))) 5 (.s 3 (.q 6 (.s 7 .fin))))) (by kernel_rfl) ?_⟩
    cbv
    have hlt : Ω.plus 0 (Ω.nat z) < fs.length := by omega
    refine ⟨?_, ?_⟩
    all_goals refine ⟨⟨z0, hzl⟩, ⟨hlt, hag⟩, ?_⟩
    all_goals (refine ⟨_, Sbs.trans (Sbs.mk (S' := ⟨[(66, .pt 0 0 0), (67, str p), (68, .sl false 1 ds)], 66, [some ⟨5, [.agg [.vw 1 0 (Ω.len fs), i64 v1, i64 v2, i64 v3, boo v4]], true⟩, some ⟨2, Q, false⟩, some ⟨2, [.agg [str p, .sl false 1 ds]], true⟩]⟩) rfl (by rw [← hfs2, ← zn]; subst hΩ; rfl) ⟨rfl, rfl, rfl, trivial⟩) (Sbs.foldCell (r := 0) (j := 0) (q := 0) (r2 := 1) rfl rfl rfl rfl hQl (List.take_of_length_le hQr) rfl rfl rfl), ?_⟩; cbv)
    all_goals exact ⟨.same, .same⟩
  · replace h := geZf hΩ h
    have hb : b = false := by
      cases b with
      | false => rfl
      | true => have := (hz0 rfl).1; omega
    obtain ⟨L, hL, hLl, hLk, hLs⟩ := hf0 hb
    have eX : Ω.seg 0 (Ω.nat (Ω.int k)) fs = fs.take k := by subst hΩ; rfl
    have eY : Ω.seg (Ω.nat (Ω.int k)) (Ω.len fs) fs = fs.drop k := by subst hΩ; show (fs.take fs.length).drop k = _; rw [List.take_length]
    have eQ : Q = fs.take k ++ A.agg [str p, .sl false 1 ds] :: fs.drop k := by
      have e : (fs.take k).length = k := by rw [List.length_take]; omega
      rw [← hLs, hL, List.set_append_right _ _ (Nat.le_of_eq e), e, Nat.sub_self]; rfl
    have lX : (fs.take k).length = k := by rw [List.length_take]; omega
    have lY : (fs.drop k).length = fs.length - k := List.length_drop
    have lQ : Q.length = fs.length + 1 := by rw [eQ, List.length_append, List.length_cons, lX, lY]; omega
    have hX1 : ∀ y ∈ fs.take k, noOwn y = true ∧ y.width = 2 := fun y hy => hno2 y (List.mem_of_mem_take hy)
    have w1 : Ω.nat (Ω.int k) ≤ fs.length := by subst hΩ; show k ≤ _; omega
    have w2 : Ω.nat (Ω.int k) ≤ Ω.len fs := by rw [lo]; exact w1
    have w3 : ∀ y ∈ Ω.seg 0 (Ω.nat (Ω.int k)) fs, noOwn y = true := by rw [eX]; exact fun y hy => (hno2 y (List.mem_of_mem_take hy)).1
    have w4 : ∀ y ∈ flat (Ω.seg 0 (Ω.nat (Ω.int k)) fs), okCell y = true := by rw [eX]; exact fun y hy => hok y (by obtain ⟨z, hz, hy⟩ := List.mem_flatMap.1 hy; exact List.mem_flatMap.2 ⟨z, List.mem_of_mem_take hz, hy⟩)
    have w5 : (0 + (Ω.seg 0 (Ω.nat (Ω.int k)) fs).length) * 40 ≤ 140737488355328 := by rw [eX, lX]; omega
    have w6 : 0 + (Ω.seg 0 (Ω.nat (Ω.int k)) fs).length ≤ 9223372036854775807 := by rw [eX, lX]; omega
    have p1 : Ω.plus 0 (Ω.len (Ω.seg 0 (Ω.nat (Ω.int k)) fs)) = k := by rw [eX, lo', lX]; subst hΩ; exact Nat.zero_add _
    have w7 : (Ω.plus 0 (Ω.len (Ω.seg 0 (Ω.nat (Ω.int k)) fs)) + 1) * 40 ≤ 140737488355328 := by rw [p1]; omega
    have w8 : Ω.plus 0 (Ω.len (Ω.seg 0 (Ω.nat (Ω.int k)) fs)) + 1 ≤ 9223372036854775807 := by rw [p1]; omega
    have w9 := w7
    have w10 := w8
    have w11 : ∀ y ∈ Ω.seg (Ω.nat (Ω.int k)) (Ω.len fs) fs, noOwn y = true := by rw [eY]; exact fun y hy => (hno2 y (List.mem_of_mem_drop hy)).1
    have w12 : ∀ y ∈ flat (Ω.seg (Ω.nat (Ω.int k)) (Ω.len fs) fs), okCell y = true := by rw [eY]; exact fun y hy => hok y (by obtain ⟨z, hz, hy⟩ := List.mem_flatMap.1 hy; exact List.mem_flatMap.2 ⟨z, List.mem_of_mem_drop hz, hy⟩)
    have p2 : Ω.plus (Ω.plus 0 (Ω.len (Ω.seg 0 (Ω.nat (Ω.int k)) fs))) (Ω.len [A.agg [str p, .sl false 1 ds]]) = k + 1 := by rw [p1]; subst hΩ; rfl
    have p3 : Ω.plus (Ω.plus 0 (Ω.len (Ω.seg 0 (Ω.nat (Ω.int k)) fs))) 1 = k + 1 := by rw [p1]; subst hΩ; rfl
    have w13 : (Ω.plus (Ω.plus 0 (Ω.len (Ω.seg 0 (Ω.nat (Ω.int k)) fs))) (Ω.len [A.agg [str p, .sl false 1 ds]]) + (Ω.seg (Ω.nat (Ω.int k)) (Ω.len fs) fs).length) * 40 ≤ 140737488355328 := by rw [p2, eY, lY]; omega
    have w14 : Ω.plus (Ω.plus 0 (Ω.len (Ω.seg 0 (Ω.nat (Ω.int k)) fs))) (Ω.len [A.agg [str p, .sl false 1 ds]]) + (Ω.seg (Ω.nat (Ω.int k)) (Ω.len fs) fs).length ≤ 9223372036854775807 := by rw [p2, eY, lY]; omega
    have w15 : (Ω.plus (Ω.plus 0 (Ω.len (Ω.seg 0 (Ω.nat (Ω.int k)) fs))) 1 + (Ω.seg (Ω.nat (Ω.int k)) (Ω.len fs) fs).length) * 40 ≤ 140737488355328 := by rw [p3, eY, lY]; omega
    have w16 : Ω.plus (Ω.plus 0 (Ω.len (Ω.seg 0 (Ω.nat (Ω.int k)) fs))) 1 + (Ω.seg (Ω.nat (Ω.int k)) (Ω.len fs) fs).length ≤ 9223372036854775807 := by rw [p3, eY, lY]; omega
    have n1 : Ω.plus (Ω.plus (Ω.plus 0 (Ω.len (Ω.seg 0 (Ω.nat (Ω.int k)) fs))) (Ω.len [A.agg [str p, .sl false 1 ds]])) (Ω.len (Ω.seg (Ω.nat (Ω.int k)) (Ω.len fs) fs)) = Q.length := by rw [p2, eY, lo', lY, lQ]; subst hΩ; show k + 1 + (fs.length - k) = _; omega
    have n2 : Ω.plus (Ω.plus (Ω.plus 0 (Ω.len (Ω.seg 0 (Ω.nat (Ω.int k)) fs))) 1) (Ω.len (Ω.seg (Ω.nat (Ω.int k)) (Ω.len fs) fs)) = Q.length := by rw [p3, eY, lo', lY, lQ]; subst hΩ; show k + 1 + (fs.length - k) = _; omega
    have q1 : Ω.app (Ω.take (Ω.plus (Ω.plus 0 (Ω.len (Ω.seg 0 (Ω.nat (Ω.int k)) fs))) (Ω.len [A.agg [str p, .sl false 1 ds]])) (Ω.app (Ω.take (Ω.plus 0 (Ω.len (Ω.seg 0 (Ω.nat (Ω.int k)) fs))) (Ω.app (Ω.take 0 []) (Ω.seg 0 (Ω.nat (Ω.int k)) fs))) [A.agg [str p, .sl false 1 ds]])) (Ω.seg (Ω.nat (Ω.int k)) (Ω.len fs) fs) = Q := by
      rw [p2, p1, eX, eY, eQ]
      subst hΩ
      show ((([] ++ fs.take k).take k) ++ [_]).take (k + 1) ++ _ = _
      rw [List.nil_append, List.take_of_length_le (l := fs.take k) (by omega), List.take_of_length_le (by rw [List.length_append]; simp; omega), List.append_assoc]; rfl
    have q2 : Ω.app (Ω.take (Ω.plus (Ω.plus 0 (Ω.len (Ω.seg 0 (Ω.nat (Ω.int k)) fs))) 1) (Ω.app (Ω.take (Ω.plus 0 (Ω.len (Ω.seg 0 (Ω.nat (Ω.int k)) fs))) (Ω.app (Ω.take 0 []) (Ω.seg 0 (Ω.nat (Ω.int k)) fs))) (Ω.seg 0 (Ω.plus 0 1) [A.agg [str p, .sl false 1 ds]]))) (Ω.seg (Ω.nat (Ω.int k)) (Ω.len fs) fs) = Q := by
      rw [← q1, p2, p3]
      subst hΩ; rfl
    clear eX eY p1 p2 p3
    refine loopX htab hΩ (fun i : Nat => ⟨[(0, .pt 0 0 0), (1, str p), (6, .pt 2 0 0), (8, i64 (Ω.int i)), (66, .pt 0 0 0), (67, str p), (68, .sl false 1 ds)], 66, [some ⟨5, [.agg [.vw 1 0 (Ω.len fs), i64 v1, i64 v2, i64 v3, boo v4]], true⟩, some ⟨2, fs, false⟩, some ⟨2, [.agg [str p, .sl false 1 ds]], true⟩]⟩)
      (fun i => i ≤ k) (fun i => k - i) 0 (Nat.zero_le _) (Sbs.mk rfl rfl ⟨rfl, rfl, rfl, zeroI hΩ, rfl, rfl, rfl, trivial⟩) (fun i hi => ?_)
    cbv
    refine br (fun h => ?_) (fun h => ?_) <;> cbv
    · have h' : i < fs.length := ltI hΩ h
      obtain ⟨f, hf⟩ := at_of (cs := l) (by omega : i < l.length)
      obtain ⟨g1, g2⟩ := hpl i f hf hi
      refine ⟨⟨ixI hΩ (by show i < Ω.len fs; rw [lo]; exact h')⟩, _, atI hΩ (by rw [hfs, List.getElem?_map, hf]; rfl), ?_⟩
      unfold Fil.enc
      generalize f.p = fp at *
      cbv
      refine br (fun g => ?_) (fun g => ?_) <;> cbv
      · have g : fp < p := ltS_t hΩ g
        exact ⟨i + 1, g1 g, by have := g1 g; omega, Sbs.mk rfl rfl ⟨rfl, rfl, rfl, incI hΩ (by omega), rfl, rfl, rfl, trivial⟩⟩
      · have g : ¬ fp < p := ltS_f hΩ g
        have hik : i = k := g2 g
        subst hik
        refine ⟨VC.sub (VC_lentO htab hΩ hmo [0, 2, 3, 4, 5, 6, 7, 9, 12, 13, 14, 15, 16, 17] (.two 1 (.two 8 (.step 10 (.step 11 (.step 18 .fin))) 10 (.step 8 (.step 11 (.step 18 .fin)))) 10 (.step 1 (.step 8 (.step 11 (.step 18 .fin))))) [19, 20, 21] [0, 2] [45, 66] (by kernel_rfl) ?_) (Sbs.trans (Sbs.thaw0 (r := 1) rfl rfl hno) (Sbs.mk (S' := ⟨[(0, .pt 0 0 0), (1, str p), (6, .pt 2 0 0), (8, i64 (Ω.int i)), (66, .pt 0 0 0), (67, str p), (68, .sl false 1 ds)], 66, [some ⟨5, [.agg [.sl false 2 fs, i64 v1, i64 v2, i64 v3, boo v4]], true⟩, none, some ⟨2, [.agg [str p, .sl false 1 ds]], true⟩]⟩) rfl (by show [some (Row.mk 5 [A.agg [.sl false 2 ((fs.drop 0).take (Ω.len fs)), i64 v1, i64 v2, i64 v3, boo v4]] true), none, some (Row.mk 2 [.agg [str p, .sl false 1 ds]] true)] = _; rw [List.drop_zero, lo, List.take_length]) ⟨rfl, rfl, rfl, rfl, rfl, rfl, rfl, trivial⟩))⟩
        cbv
        refine ⟨⟨trivial, nnI hΩ, Nat.zero_le _, w1⟩, ⟨nnI hΩ, trivial, w2, Nat.le_of_eq lo⟩, fun vs => ?_⟩
        cbv
        refine ⟨⟨⟨⟨w3, w4, w5, w6⟩, ⟨rfl, okAll rfl, w7, w8⟩, ⟨w11, w12, w13, w14⟩, ?_⟩, ⟨⟨w3, w4, w5, w6⟩, ⟨Nat.le_refl _, all1 rfl, okAll rfl, w9, w10⟩, ⟨w11, w12, w15, w16⟩, ?_⟩⟩, ⟨⟨w3, w4, w5, w6⟩, ⟨Nat.le_refl _, all1 rfl, okAll rfl, w9, w10⟩, ⟨w11, w12, w15, w16⟩, ?_⟩⟩
        · refine ⟨_, Sbs.trans (Sbs.mk (S' := ⟨[(66, .pt 0 0 0), (67, str p), (68, .sl false 1 ds)], 66, [some ⟨5, [.agg [.vw 3 0 Q.length, i64 v1, i64 v2, i64 v3, boo v4]], true⟩, none, some ⟨2, [.agg [str p, .sl false 1 ds]], true⟩, some ⟨2, Q, false⟩, none]⟩) rfl (by show [some (Row.mk 5 [A.agg [.vw 3 0 (Ω.plus (Ω.plus (Ω.plus 0 (Ω.len (Ω.seg 0 (Ω.nat (Ω.int i)) fs))) (Ω.len [A.agg [str p, .sl false 1 ds]])) (Ω.len (Ω.seg (Ω.nat (Ω.int i)) (Ω.len fs) fs))), i64 v1, i64 v2, i64 v3, boo v4]] true), none, some (Row.mk 2 [.agg [str p, .sl false 1 ds]] true), some (Row.mk 2 (Ω.app (Ω.take (Ω.plus (Ω.plus 0 (Ω.len (Ω.seg 0 (Ω.nat (Ω.int i)) fs))) (Ω.len [A.agg [str p, .sl false 1 ds]])) (Ω.app (Ω.take (Ω.plus 0 (Ω.len (Ω.seg 0 (Ω.nat (Ω.int i)) fs))) (Ω.app (Ω.take 0 []) (Ω.seg 0 (Ω.nat (Ω.int i)) fs))) [A.agg [str p, .sl false 1 ds]])) (Ω.seg (Ω.nat (Ω.int i)) (Ω.len fs) fs)) false), none] = _; rw [q1, n1]) ⟨rfl, rfl, rfl, trivial⟩) (Sbs.foldCell (r := 0) (j := 0) (q := 0) (r2 := 3) rfl rfl rfl rfl (Nat.le_refl _) List.take_length rfl rfl rfl), ?_⟩
          cbv
          exact ⟨.same, .same⟩
        · refine ⟨_, Sbs.trans (Sbs.mk (S' := ⟨[(66, .pt 0 0 0), (67, str p), (68, .sl false 1 ds)], 66, [some ⟨5, [.agg [.vw 3 0 Q.length, i64 v1, i64 v2, i64 v3, boo v4]], true⟩, none, some ⟨2, [.agg [str p, .sl false 1 ds]], true⟩, some ⟨2, Q, false⟩, some ⟨2, [.agg [str p, .sl false 1 ds]], false⟩]⟩) rfl (by show [some (Row.mk 5 [A.agg [.vw 3 0 (Ω.plus (Ω.plus (Ω.plus 0 (Ω.len (Ω.seg 0 (Ω.nat (Ω.int i)) fs))) 1) (Ω.len (Ω.seg (Ω.nat (Ω.int i)) (Ω.len fs) fs))), i64 v1, i64 v2, i64 v3, boo v4]] true), none, some (Row.mk 2 [.agg [str p, .sl false 1 ds]] true), some (Row.mk 2 (Ω.app (Ω.take (Ω.plus (Ω.plus 0 (Ω.len (Ω.seg 0 (Ω.nat (Ω.int i)) fs))) 1) (Ω.app (Ω.take (Ω.plus 0 (Ω.len (Ω.seg 0 (Ω.nat (Ω.int i)) fs))) (Ω.app (Ω.take 0 []) (Ω.seg 0 (Ω.nat (Ω.int i)) fs))) (Ω.seg 0 (Ω.plus 0 1) [A.agg [str p, .sl false 1 ds]]))) (Ω.seg (Ω.nat (Ω.int i)) (Ω.len fs) fs)) false), some (Row.mk 2 [.agg [str p, .sl false 1 ds]] false)] = _; rw [q2, n2]) ⟨rfl, rfl, rfl, trivial⟩) (Sbs.foldCell (r := 0) (j := 0) (q := 0) (r2 := 3) rfl rfl rfl rfl (Nat.le_refl _) List.take_length rfl rfl rfl), ?_⟩
          cbv
          exact ⟨.same, .same⟩
        · refine ⟨_, Sbs.trans (Sbs.mk (S' := ⟨[(66, .pt 0 0 0), (67, str p), (68, .sl false 1 ds)], 66, [some ⟨5, [.agg [.vw 4 0 Q.length, i64 v1, i64 v2, i64 v3, boo v4]], true⟩, none, some ⟨2, [.agg [str p, .sl false 1 ds]], true⟩, some ⟨2, [.agg [str p, .sl false 1 ds]], false⟩, some ⟨2, Q, false⟩]⟩) rfl (by show [some (Row.mk 5 [A.agg [.vw 4 0 (Ω.plus (Ω.plus (Ω.plus 0 (Ω.len (Ω.seg 0 (Ω.nat (Ω.int i)) fs))) 1) (Ω.len (Ω.seg (Ω.nat (Ω.int i)) (Ω.len fs) fs))), i64 v1, i64 v2, i64 v3, boo v4]] true), none, some (Row.mk 2 [.agg [str p, .sl false 1 ds]] true), some (Row.mk 2 [.agg [str p, .sl false 1 ds]] false), some (Row.mk 2 (Ω.app (Ω.take (Ω.plus (Ω.plus 0 (Ω.len (Ω.seg 0 (Ω.nat (Ω.int i)) fs))) 1) (Ω.app (Ω.take (Ω.plus 0 (Ω.len (Ω.seg 0 (Ω.nat (Ω.int i)) fs))) (Ω.app (Ω.take 0 []) (Ω.seg 0 (Ω.nat (Ω.int i)) fs))) (Ω.seg 0 (Ω.plus 0 1) [A.agg [str p, .sl false 1 ds]]))) (Ω.seg (Ω.nat (Ω.int i)) (Ω.len fs) fs)) false)] = _; rw [q2, n2]) ⟨rfl, rfl, rfl, trivial⟩) (Sbs.foldCell (r := 0) (j := 0) (q := 0) (r2 := 4) rfl rfl rfl rfl (Nat.le_refl _) List.take_length rfl rfl rfl), ?_⟩
          cbv
          exact ⟨.same, .same⟩
    · have h' : fs.length ≤ i := geI hΩ h
      have hik : i = k := by omega
      subst hik
      refine ⟨VC.sub (VC_lentO htab hΩ hmo [0, 2, 3, 4, 5, 6, 7, 9, 12, 13, 14, 15, 16, 17] (.two 1 (.two 8 (.step 10 (.step 11 (.step 18 .fin))) 10 (.step 8 (.step 11 (.step 18 .fin)))) 10 (.step 1 (.step 8 (.step 11 (.step 18 .fin))))) [19, 20, 21] [0, 2] [45, 66] (by kernel_rfl) ?_) (Sbs.trans (Sbs.thaw0 (r := 1) rfl rfl hno) (Sbs.mk (S' := ⟨[(0, .pt 0 0 0), (1, str p), (6, .pt 2 0 0), (8, i64 (Ω.int i)), (66, .pt 0 0 0), (67, str p), (68, .sl false 1 ds)], 66, [some ⟨5, [.agg [.sl false 2 fs, i64 v1, i64 v2, i64 v3, boo v4]], true⟩, none, some ⟨2, [.agg [str p, .sl false 1 ds]], true⟩]⟩) rfl (by show [some (Row.mk 5 [A.agg [.sl false 2 ((fs.drop 0).take (Ω.len fs)), i64 v1, i64 v2, i64 v3, boo v4]] true), none, some (Row.mk 2 [.agg [str p, .sl false 1 ds]] true)] = _; rw [List.drop_zero, lo, List.take_length]) ⟨rfl, rfl, rfl, rfl, rfl, rfl, rfl, trivial⟩))⟩
      cbv
      refine ⟨⟨trivial, nnI hΩ, Nat.zero_le _, w1⟩, ⟨nnI hΩ, trivial, w2, Nat.le_of_eq lo⟩, fun vs => ?_⟩
      cbv
      refine ⟨⟨⟨⟨w3, w4, w5, w6⟩, ⟨rfl, okAll rfl, w7, w8⟩, ⟨w11, w12, w13, w14⟩, ?_⟩, ⟨⟨w3, w4, w5, w6⟩, ⟨Nat.le_refl _, all1 rfl, okAll rfl, w9, w10⟩, ⟨w11, w12, w15, w16⟩, ?_⟩⟩, ⟨⟨w3, w4, w5, w6⟩, ⟨Nat.le_refl _, all1 rfl, okAll rfl, w9, w10⟩, ⟨w11, w12, w15, w16⟩, ?_⟩⟩
      · refine ⟨_, Sbs.trans (Sbs.mk (S' := ⟨[(66, .pt 0 0 0), (67, str p), (68, .sl false 1 ds)], 66, [some ⟨5, [.agg [.vw 3 0 Q.length, i64 v1, i64 v2, i64 v3, boo v4]], true⟩, none, some ⟨2, [.agg [str p, .sl false 1 ds]], true⟩, some ⟨2, Q, false⟩, none]⟩) rfl (by show [some (Row.mk 5 [A.agg [.vw 3 0 (Ω.plus (Ω.plus (Ω.plus 0 (Ω.len (Ω.seg 0 (Ω.nat (Ω.int i)) fs))) (Ω.len [A.agg [str p, .sl false 1 ds]])) (Ω.len (Ω.seg (Ω.nat (Ω.int i)) (Ω.len fs) fs))), i64 v1, i64 v2, i64 v3, boo v4]] true), none, some (Row.mk 2 [.agg [str p, .sl false 1 ds]] true), some (Row.mk 2 (Ω.app (Ω.take (Ω.plus (Ω.plus 0 (Ω.len (Ω.seg 0 (Ω.nat (Ω.int i)) fs))) (Ω.len [A.agg [str p, .sl false 1 ds]])) (Ω.app (Ω.take (Ω.plus 0 (Ω.len (Ω.seg 0 (Ω.nat (Ω.int i)) fs))) (Ω.app (Ω.take 0 []) (Ω.seg 0 (Ω.nat (Ω.int i)) fs))) [A.agg [str p, .sl false 1 ds]])) (Ω.seg (Ω.nat (Ω.int i)) (Ω.len fs) fs)) false), none] = _; rw [q1, n1]) ⟨rfl, rfl, rfl, trivial⟩) (Sbs.foldCell (r := 0) (j := 0) (q := 0) (r2 := 3) rfl rfl rfl rfl (Nat.le_refl _) List.take_length rfl rfl rfl), ?_⟩
        cbv
        exact ⟨.same, .same⟩
      · refine ⟨_, Sbs.trans (Sbs.mk (S' := ⟨[(66, .pt 0 0 0), (67, str p), (68, .sl false 1 ds)], 66, [some ⟨5, [.agg [.vw 3 0 Q.length, i64 v1, i64 v2, i64 v3, boo v4]], true⟩, none, some ⟨2, [.agg [str p, .sl false 1 ds]], true⟩, some ⟨2, Q, false⟩, some ⟨2, [.agg [str p, .sl false 1 ds]], false⟩]⟩) rfl (by show [some (Row.mk 5 [A.agg [.vw 3 0 (Ω.plus (Ω.plus (Ω.plus 0 (Ω.len (Ω.seg 0 (Ω.nat (Ω.int i)) fs))) 1) (Ω.len (Ω.seg (Ω.nat (Ω.int i)) (Ω.len fs) fs))), i64 v1, i64 v2, i64 v3, boo v4]] true), none, some (Row.mk 2 [.agg [str p, .sl false 1 ds]] true), some (Row.mk 2 (Ω.app (Ω.take (Ω.plus (Ω.plus 0 (Ω.len (Ω.seg 0 (Ω.nat (Ω.int i)) fs))) 1) (Ω.app (Ω.take (Ω.plus 0 (Ω.len (Ω.seg 0 (Ω.nat (Ω.int i)) fs))) (Ω.app (Ω.take 0 []) (Ω.seg 0 (Ω.nat (Ω.int i)) fs))) (Ω.seg 0 (Ω.plus 0 1) [A.agg [str p, .sl false 1 ds]]))) (Ω.seg (Ω.nat (Ω.int i)) (Ω.len fs) fs)) false), some (Row.mk 2 [.agg [str p, .sl false 1 ds]] false)] = _; rw [q2, n2]) ⟨rfl, rfl, rfl, trivial⟩) (Sbs.foldCell (r := 0) (j := 0) (q := 0) (r2 := 3) rfl rfl rfl rfl (Nat.le_refl _) List.take_length rfl rfl rfl), ?_⟩
        cbv
        exact ⟨.same, .same⟩
      · refine ⟨_, Sbs.trans (Sbs.mk (S' := ⟨[(66, .pt 0 0 0), (67, str p), (68, .sl false 1 ds)], 66, [some ⟨5, [.agg [.vw 4 0 Q.length, i64 v1, i64 v2, i64 v3, boo v4]], true⟩, none, some ⟨2, [.agg [str p, .sl false 1 ds]], true⟩, some ⟨2, [.agg [str p, .sl false 1 ds]], false⟩, some ⟨2, Q, false⟩]⟩) rfl (by show [some (Row.mk 5 [A.agg [.vw 4 0 (Ω.plus (Ω.plus (Ω.plus 0 (Ω.len (Ω.seg 0 (Ω.nat (Ω.int i)) fs))) 1) (Ω.len (Ω.seg (Ω.nat (Ω.int i)) (Ω.len fs) fs))), i64 v1, i64 v2, i64 v3, boo v4]] true), none, some (Row.mk 2 [.agg [str p, .sl false 1 ds]] true), some (Row.mk 2 [.agg [str p, .sl false 1 ds]] false), some (Row.mk 2 (Ω.app (Ω.take (Ω.plus (Ω.plus 0 (Ω.len (Ω.seg 0 (Ω.nat (Ω.int i)) fs))) 1) (Ω.app (Ω.take (Ω.plus 0 (Ω.len (Ω.seg 0 (Ω.nat (Ω.int i)) fs))) (Ω.app (Ω.take 0 []) (Ω.seg 0 (Ω.nat (Ω.int i)) fs))) (Ω.seg 0 (Ω.plus 0 1) [A.agg [str p, .sl false 1 ds]]))) (Ω.seg (Ω.nat (Ω.int i)) (Ω.len fs) fs)) false)] = _; rw [q2, n2]) ⟨rfl, rfl, rfl, trivial⟩) (Sbs.foldCell (r := 0) (j := 0) (q := 0) (r2 := 4) rfl rfl rfl rfl (Nat.le_refl _) List.take_length rfl rfl rfl), ?_⟩
        cbv
        exact ⟨.same, .same⟩
end Go.Proofs.YtljjcffnomdhhaaGreatDoor

/- Walks: the files that a batch writes. Plain theorems. -/
set_option linter.unusedVariables false
set_option linter.unusedSimpArgs false
namespace Go.Proofs.YtljjcffnomdhhaaGreatDoor
open Go Go.Fw
set_option maxRecDepth 100000
/-- The file of a package. -/
def filK (o : Pck) : Fil := ⟨pathK o, bytK o⟩
theorem wrtF_eq (c : List Pck) (l : List Fil) (s : List Int) : wrtF c l s = (lackF c l s).map (fun k => filK (pk c k)) ++ [⟨genB (nxtF l), setT c s⟩, ⟨curP, Lib.itoa (nxtF l)⟩] := rfl
theorem c_writes (c : List Pck) (x : Dsk) (s : List Int) (hl : c.length ≤ 1048576) (hc : catF c = 0) (hx : x.Mid) (hp : ∀ f ∈ x.f, f.p.length ≤ 1048576) (hk : Told c s) (hn : nxtF x.f ≤ 999999) :
    MCtr PP n_impl_writes [encP c, x.enc true false, .sl false 1 (s.map i64)] (.sl true 2 ((wrtF c x.f s).map (Fil.enc false))) [encP c, x.enc true false, .sl false 1 (s.map i64)] := by
  obtain ⟨Ω, hΩ⟩ : ∃ Ω, Ω = std := ⟨_, rfl⟩
  obtain ⟨F, hF⟩ := grw hΩ (fun k => Fil.enc false (filK (pk c k)))
  have hcl := (cat_ok hc).1
  have hla := c_lacking c x s hc hx hk
  have hnx := c_next x hx.n hp
  have hst := c_setText c s hc hk
  have hrf := roFInt (lackF c x.f s)
  have hlt : ∀ k ∈ lackF c x.f s, inB k 0 ((c.length : Int) - 1) = true := fun k hm => hk.2 k ((List.mem_filter.1 hm).1)
  have hll : (lackF c x.f s).length ≤ 24 := Nat.le_trans (List.length_filter_le _ _) (by have := hk.len; omega)
  have hn1 := (nxtF_in x.f).1
  have hgp := c_genPath (nxtF x.f) hn1 hn
  have hdc := c_dec (nxtF x.f) (by omega) (by omega)
  have hsl : (setT c s).length ≤ 9223372036854775807 := by have := setT_len hc s hk.2; have := hk.len; omega
  have hil : (Lib.itoa (nxtF x.f)).length ≤ 9223372036854775807 := by have := itoa_len6 (n := nxtF x.f) (by omega) (by omega); omega
  rw [wrtF_eq]
  generalize lackF c x.f s = L at *
  generalize setT c s = st at *
  generalize genB (nxtF x.f) = gp at *
  generalize Lib.itoa (nxtF x.f) = it at *
  generalize nxtF x.f = n at *
  have hat : ∀ i k, L[i]? = some k → ∃ (o : Pck) (p : List UInt8) (bs : List A), (0 ≤ k ∧ (c.map (Pck.enc false))[k.toNat]? = some (o.enc false)) ∧ PCtr PP n_impl_Pack_path [o.enc false] (str p) ∧ PCtr PP n_impl_Pack_bytes [o.enc false] (.sl true 1 bs) ∧ roFree (.sl true 1 bs) = true ∧ frz (.sl true 1 bs) = .sl false 1 bs ∧
      Ω.app (Ω.take (Ω.len (F (L.take i))) (F (L.take i))) [.agg [str p, .sl false 1 bs]] = F (L.take (i + 1)) ∧ Ω.plus (Ω.len (F (L.take i))) (Ω.len [.agg [str p, .sl false 1 bs]]) = Ω.len (F (L.take (i + 1))) := fun i k h => by
    obtain ⟨k0, hat, hn, hv, hs, hbl⟩ := pk_facts hc (hlt k (List.mem_of_getElem? h))
    refine ⟨pk c k, pathK (pk c k), (bytK (pk c k)).map byteA, ⟨k0, hat⟩, c_path _ (by omega) hv, c_bytes _ hn hv hs, roF_B _, by rw [frz_sl, frz_B1], ?_, ?_⟩
    · rw [List.take_add_one, h]; exact hF.app (L.take i) k
    · rw [List.take_add_one, h]; exact hF.plus (L.take i) k
  have hcp : str curP = str [99, 117, 114] := rfl
  obtain ⟨R, hR⟩ : ∃ R, R = (L.map (fun k => filK (pk c k)) ++ [Fil.mk gp st, Fil.mk curP it]).map (Fil.enc false) := ⟨_, rfl⟩
  have hRF : R = F L ++ [.agg [str gp, .sl false 1 (st.map byteA)], .agg [str [99, 117, 114], .sl false 1 (it.map byteA)]] := by rw [hR, List.map_append, List.map_map]; exact congrArg (· ++ _) (hF.eq L)
  rw [← hR]
  clear hR
  have hF0 : F (L.take 0) = [] := hF.nil
  have hFn : F L = F (L.take L.length) := by rw [List.take_length]
  have hFl : ∀ i, (F (L.take i)).length ≤ 24 := fun i => by rw [hF.len, List.length_take]; omega
  have hlo := fun i => hF.lo (L.take i)
  have htk := fun i => hF.tk (L.take i)
  have hle := fun i => hF.le (L.take i)
  obtain ⟨H, hH⟩ : ∃ H : Nat → List A, ∀ i, H i = F (L.take i) := ⟨_, fun _ => rfl⟩
  simp only [← hH] at hat hF0 hFn hFl hlo htk hle
  rw [hFn] at hRF
  obtain ⟨sb, hsb⟩ : ∃ sb, sb = st.map byteA := ⟨_, rfl⟩
  obtain ⟨ib, hib⟩ : ∃ ib, ib = it.map byteA := ⟨_, rfl⟩
  rw [← hsb, ← hib] at hRF
  have e1 : Ω.app (Ω.take (Ω.len (H L.length)) (H L.length)) [.agg [str gp, .sl false 1 sb], .agg [str [99, 117, 114], .sl false 1 ib]] = R := by rw [htk, hRF]; subst hΩ; rfl
  have e2 : Ω.plus (Ω.len (H L.length)) (Ω.len [.agg [str gp, .sl false 1 sb], .agg [str [99, 117, 114], .sl false 1 ib]]) = Ω.len R := by rw [hRF]; subst hΩ; exact (List.length_append).symm
  have lR : Ω.len R ≤ R.length := by subst hΩ; exact Nat.le_refl _
  have tR : Ω.take (Ω.len R) R = R := takeAll hΩ _
  have hLb := hFl L.length
  have hLo := hlo L.length
  clear hH hFn hF
  obtain ⟨ls, hls⟩ : ∃ ls, ls = L.map i64 := ⟨_, rfl⟩
  have hlsl : ls.length = L.length := by rw [hls, List.length_map]
  unfold ints at hla
  rw [← hls] at hla hrf
  have hfz : frz (.sl true 1 ls) = .sl false 1 ls := by rw [hls, frz_sl, List.map_map]; rfl
  have hfx : (x.f.map (Fil.enc false)).map frz = x.f.map (Fil.enc false) := by rw [List.map_map]; exact List.map_congr_left fun f _ => frz_encF f
  unfold Dsk.enc encP at *
  generalize x.f.map (Fil.enc false) = xs at *
  have lx : Ω.len xs = xs.length := by subst hΩ; rfl
  have tx : Ω.take (Ω.len xs) xs = xs := takeAll hΩ _
  generalize c.map (Pck.enc false) = cs at *
  generalize s.map i64 = ss at *
  generalize x.bg = v1 at *
  generalize x.wr = v2 at *
  generalize x.st = v3 at *
  generalize x.dn = v4 at *
  have htab := tab
  have hmo := hmo
  refine MCtr.walkO tab hΩ 4 fn_impl_writes rfl rfl rfl ?_
  generalize PP = P at *
  cbv
  refine call_pf hΩ 4 hla (mapO3 rfl (ro_agg5 (ro_vw rfl lx hfx) rfl rfl rfl rfl) rfl) (fits _) hrf hfz rfl ?_
  cbv
  refine loopX htab hΩ (fun i : Nat => ⟨[(0, .sl false 8 cs), (4, .pt 1 0 0), (2, .sl false 1 ss), (7, .vw 2 0 (Ω.len (H i))), (15, .sl false 1 ls), (16, i64 (Ω.int (Ω.len ls))), (17, i64 (Ω.int i)), (52, .sl false 8 cs), (53, .agg [.vw 0 0 (Ω.len xs), i64 v1, i64 v2, i64 v3, boo v4]), (54, .sl false 1 ss)], 52,
    [some ⟨2, xs, false⟩, some ⟨5, [.agg [.vw 0 0 (Ω.len xs), i64 v1, i64 v2, i64 v3, boo v4]], true⟩, some ⟨2, H i, false⟩]⟩) (fun i => i ≤ L.length) (fun i => L.length - i) 0 (Nat.zero_le _)
    (Sbs.mk rfl (by show [some (Row.mk 2 xs false), some (Row.mk 5 [.agg [.vw 0 0 (Ω.len xs), i64 v1, i64 v2, i64 v3, boo v4]] true), some (Row.mk 2 [] false)] = _; rw [hF0]) ⟨rfl, rfl, rfl, by show A.vw 2 0 0 = A.vw 2 0 (Ω.len (H 0)); rw [hlo, hF0]; rfl, rfl, rfl, zeroI hΩ, rfl, rfl, rfl, trivial⟩) (fun i hi => ?_)
  have hlo := hlo i
  have htk := htk i
  have hle := hle i
  have hFl := hFl i
  cbv
  refine br (fun h => ?_) (fun h => ?_) <;> cbv
  · replace h := ltI hΩ h
    obtain ⟨k, hki⟩ := at_of (cs := L) (by omega : i < L.length)
    obtain ⟨o, p, bs, ⟨k0, hat⟩, hpa, hby, hrb, hfb, hap, hpl⟩ := hat i k hki
    obtain ⟨ps, dd, bb, hen, -, -, -⟩ := enc_raw o
    rw [hen] at hat hpa hby
    refine ⟨⟨nnI hΩ⟩, _, rdI hΩ hls hki, ?_⟩
    cbv
    refine ⟨VC_pl htab hΩ hmo (.qs [0, 1, 2, 3, 4, 6, 7, 8, 9] (.s 5 (.s 10 (.s 11 (.s 12 (.s 13 (.s 14 .fin))))))) (by kernel_rfl) ?_⟩
    cbv
    refine ⟨⟨k0⟩, _, hat, ?_⟩
    cbv
    refine ⟨⟨k0⟩, _, hat, ?_⟩
    cbv
    refine call_pure hΩ 4 hpa rfl (fits _) rfl rfl ?_
    cbv
    refine call_pf hΩ 4 hby rfl (fits _) hrb hfb rfl ?_
    cbv
    refine ⟨⟨rfl, okAll rfl, by show (Ω.len (H i) + 1) * 40 ≤ 140737488355328; omega, by show Ω.len (H i) + 1 ≤ 9223372036854775807; omega⟩, ?_⟩
    exact ⟨i + 1, by omega, by omega, (Sbs.cut 3 rfl).trans (Sbs.mk rfl (by show [some (Row.mk 2 xs false), some (Row.mk 5 [A.agg [.vw 0 0 (Ω.len xs), i64 v1, i64 v2, i64 v3, boo v4]] true), some (Row.mk 2 (Ω.app (Ω.take (Ω.len (H i)) (H i)) [.agg [str p, .sl false 1 bs]]) false)] = _; rw [hap])
      ⟨rfl, rfl, rfl, by show A.vw 2 0 (Ω.plus (Ω.len (H i)) (Ω.len [.agg [str p, .sl false 1 bs]])) = _; rw [hpl], rfl, rfl, incI hΩ (by omega), rfl, rfl, rfl, trivial⟩)⟩
  · replace h := geI hΩ h
    obtain rfl : i = L.length := by omega
    refine call_pure hΩ 4 hnx (mapO1 (ro_agg5 (ro_vw rfl lx hfx) rfl rfl rfl rfl)) (fits _) rfl rfl ?_
    cbv
    refine call_pure hΩ 4 hgp rfl (fits _) rfl rfl ?_
    cbv
    refine call_pure hΩ 4 hst rfl (fits _) rfl rfl ?_
    cbv
    refine ⟨sb, ⟨hsb, hsl⟩, ?_⟩
    cbv
    refine call_pure hΩ 4 hdc rfl (fits _) rfl rfl ?_
    cbv
    refine ⟨ib, ⟨hib, hil⟩, ?_⟩
    cbv
    refine ⟨⟨rfl, okAll rfl, by show (Ω.len (H L.length) + 2) * 40 ≤ 140737488355328; omega, by show Ω.len (H L.length) + 2 ≤ 9223372036854775807; omega⟩, ⟨rfl, ?_⟩, ⟨rfl, Nat.le_of_eq lx⟩, .of ?_, .of ?_⟩
    · show Ω.plus (Ω.len (H L.length)) (Ω.len [.agg [str gp, .sl false 1 sb], .agg [str [99, 117, 114], .sl false 1 ib]]) ≤ (Ω.app (Ω.take (Ω.len (H L.length)) (H L.length)) [.agg [str gp, .sl false 1 sb], .agg [str [99, 117, 114], .sl false 1 ib]]).length
      rw [e1, e2]; exact lR
    · show A.sl true 2 (Ω.take (Ω.plus (Ω.len (H L.length)) (Ω.len [.agg [str gp, .sl false 1 sb], .agg [str [99, 117, 114], .sl false 1 ib]])) (Ω.app (Ω.take (Ω.len (H L.length)) (H L.length)) [.agg [str gp, .sl false 1 sb], .agg [str [99, 117, 114], .sl false 1 ib]])) = _
      rw [e1, e2, tR]
    · show [A.sl false 8 cs, A.agg [.sl true 2 (Ω.take (Ω.len xs) xs), i64 v1, i64 v2, i64 v3, boo v4], .sl false 1 ss] = _
      rw [tx]; rfl
/-- How many bytes more a file brings. -/
theorem c_more (x : Dsk) (f : Fil) (hx : x.Mid) (hd : f.d.length ≤ 1048576) : PCtr PP n_impl_Disk_more [x.enc false false, f.enc false] (i64 ((f.d.length : Int) - ((datF x.f f.p).length : Int))) := by
  obtain ⟨Ω, hΩ⟩ : ∃ Ω, Ω = std := ⟨_, rfl⟩
  have hda := c_data x f.p hx.n hx.o
  have hdl := datF_len hx.d4 f.p
  have e : i64 (Ω.ar .sub .i64 (Ω.int (Ω.len (f.d.map byteA))) (Ω.int (Ω.len ((datF x.f f.p).map byteA)))) = i64 ((f.d.length : Int) - ((datF x.f f.p).length : Int)) := by
    subst hΩ
    show i64 (IntKind.i64.wrap (((f.d.map byteA).length : Int) - (((datF x.f f.p).map byteA).length : Int))) = _
    rw [List.length_map, List.length_map, wrap64 (by omega) (by omega)]
  generalize ((f.d.length : Int) - ((datF x.f f.p).length : Int)) = r at *
  unfold Fil.enc
  generalize f.d.map byteA = fb at *
  generalize (datF x.f f.p).map byteA = db at *
  generalize hasF x.f f.p = b at *
  generalize f.p = p at *
  unfold Dsk.enc at *
  generalize x.f.map (Fil.enc false) = xs at *
  generalize x.bg = v1 at *
  generalize x.wr = v2 at *
  generalize x.st = v3 at *
  generalize x.dn = v4 at *
  have htab := tab
  have hmo := hmo
  refine PCtr.walk tab hΩ fn_impl_Disk_more rfl ?_
  generalize PP = P at *
  cbv
  refine call_share hΩ 4 hda rfl (fits _) rfl ?_
  cbv
  exact .of e
end Go.Proofs.YtljjcffnomdhhaaGreatDoor

/- How much there is at the most: small disks laid. Plain theorems. -/
set_option linter.unusedVariables false
set_option linter.unusedSimpArgs false
namespace Go.Proofs.YtljjcffnomdhhaaGreatDoor
open Go Go.Fw
set_option maxRecDepth 100000
theorem setF_told {c : List Pck} {s : List Int} (h : setF c s = 0) : Told c s := by
  refine ⟨List.pairwise_iff_getElem.2 fun i j hi hj hij => ?_, setF_in h⟩
  exact setF_lt h (j - i - 1) i _ _ (List.getElem?_eq_getElem hi) (by rw [show i + (j - i - 1) + 1 = j by omega]; exact List.getElem?_eq_getElem hj)
/-- At most m files in order, small ones. -/
structure MidF (m : Nat) (l : List Fil) : Prop where
  n : l.length ≤ m
  p : ∀ f ∈ l, f.p.length ≤ 40
  o : ordF l
  d : ∀ f ∈ l, f.d.length ≤ 4000
theorem MidF.mono {m n : Nat} {l : List Fil} (h : MidF m l) (hn : m ≤ n) : MidF n l := ⟨Nat.le_trans h.n hn, h.p, h.o, h.d⟩
theorem MidF.put {m : Nat} {l : List Fil} {f : Fil} (h : MidF m l) (hp : f.p.length ≤ 40) (hd : f.d.length ≤ 4000) : MidF (m + 1) (putF l f) := by
  refine ⟨by have := putF_len l f; have := h.n; omega, fun g hg => ?_, putF_ord h.o, fun g hg => ?_⟩
  · rcases putF_mem hg with rfl | hg
    · exact hp
    · exact h.p g hg
  · rcases putF_mem hg with rfl | hg
    · exact hd
    · exact h.d g hg
theorem totL_le4 : ∀ {l : List Fil}, (∀ f ∈ l, f.d.length ≤ 4000) → totL l ≤ 4000 * l.length
  | [], _ => Nat.zero_le _
  | f :: l, h => by
    have h1 := totL_le4 (l := l) fun g hg => h g (.tail _ hg)
    have h2 := h f (.head _)
    unfold totL at h1 ⊢
    simp only [List.map_cons, List.sum_cons, List.length_cons]
    omega
theorem MidF.t {m : Nat} {l : List Fil} (h : MidF m l) : totL l ≤ 4000 * m := Nat.le_trans (totL_le4 h.d) (Nat.mul_le_mul_left _ h.n)
theorem pathF_len {p : List UInt8} (h : pathF p = 0) : p.length ≤ 40 := by
  unfold pathF at h
  split at h
  · cases h
  · omega
theorem Dsk.Ok.midF {x : Dsk} (h : x.Ok) : MidF 120 x.f := ⟨h.n120, fun f hf => pathF_len (h.pf f hf), h.o, h.d4⟩
theorem pathK_len {o : Pck} (hn : o.n.length ≤ 12) (hv : verF o.v = 0) : (pathK o).length ≤ 28 := by
  have := verT_len hv
  unfold pathK pkgH
  simp
  omega
theorem wrtF_small {c : List Pck} (hc : catF c = 0) {l : List Fil} {s : List Int} (hk : Told c s) (hn : nxtF l ≤ 999999) : (wrtF c l s).length ≤ 26 ∧ ∀ f ∈ wrtF c l s, f.p.length ≤ 40 ∧ f.d.length ≤ 4000 := by
  have hsl := hk.len
  have hcl := (cat_ok hc).1
  have h1 : (lackF c l s).length ≤ s.length := List.length_filter_le _ _
  have h2 := setT_len hc s hk.2
  have h3 := (nxtF_in l).1
  have h4 := itoa_len6 (n := nxtF l) (by omega) (by omega)
  refine ⟨by rw [wrtF_eq]; simp; omega, fun f hf => ?_⟩
  rw [wrtF_eq] at hf
  rcases List.mem_append.1 hf with hf | hf
  · obtain ⟨k, hkm, rfl⟩ := List.mem_map.1 hf
    obtain ⟨-, -, hn, hv, -, hb⟩ := pk_facts hc (hk.2 k (List.mem_filter.1 hkm).1)
    have := pathK_len hn hv
    exact ⟨by show (pathK (pk c k)).length ≤ 40; omega, by show (bytK (pk c k)).length ≤ 4000; omega⟩
  · simp only [List.mem_cons, List.not_mem_nil, or_false] at hf
    rcases hf with rfl | rfl
    · exact ⟨by show (genB _).length ≤ 40; rw [genB_len]; omega, by show (setT c s).length ≤ 4000; omega⟩
    · exact ⟨by show curP.length ≤ 40; unfold curP; simp, by show (Lib.itoa _).length ≤ 4000; omega⟩
theorem layF_drop {l l0 : List Fil} {w : List Fil} {j : Nat} {f : Fil} (h : w[j]? = some f) : layF l (w.drop j) = layF (putF l f) (w.drop (j + 1)) := by
  obtain ⟨h1, rfl⟩ := List.getElem?_eq_some_iff.1 h
  rw [List.drop_eq_getElem_cons h1]; rfl
theorem mstF_drop {l : List Fil} {m : Int} {w : List Fil} {j : Nat} {f : Fil} (h : w[j]? = some f) : mstF l m (w.drop j) = mstF (putF l f) (if m < (totL (putF l f) : Int) then (totL (putF l f) : Int) else m) (w.drop (j + 1)) := by
  obtain ⟨h1, rfl⟩ := List.getElem?_eq_some_iff.1 h
  rw [List.drop_eq_getElem_cons h1, mstF]
theorem pkS_drop {c : List Pck} {l : List Fil} {m : Int} {ss : List (List Int)} {i : Nat} {s : List Int} (h : ss[i]? = some s) :
    pkS c l m (ss.drop i) = if 999999 < nxtF l then (0, 0, 2) else pkS c (layF l (wrtF c l s)) (mstF l m (wrtF c l s)) (ss.drop (i + 1)) := by
  obtain ⟨h1, rfl⟩ := List.getElem?_eq_some_iff.1 h
  rw [List.drop_eq_getElem_cons h1, pkS]
/-- What is told of sets: the most, the last, the code. -/
def pkI (c : List Pck) (x : Dsk) (ss : List (List Int)) : Int × Int × Int :=
  if 40 < ss.length then (0, 0, 2) else if firstF (setF c) ss ≠ 0 then (0, 0, firstF (setF c) ss) else pkS c x.f (totL x.f) ss
/-- Sets in cells. -/
def encSS (ss : List (List Int)) : A := .sl false 1 (ss.map fun s => .sl false 1 (s.map i64))
end Go.Proofs.YtljjcffnomdhhaaGreatDoor

/- Walks: how much there is at the most. Plain theorems. -/
set_option linter.unusedVariables false
set_option linter.unusedSimpArgs false
namespace Go.Proofs.YtljjcffnomdhhaaGreatDoor
open Go Go.Fw
set_option maxRecDepth 100000
theorem c_peak (c : List Pck) (x : Dsk) (ss : List (List Int)) (hl : c.length ≤ 1048576) (ho : ∀ o ∈ c, o.Small) (hc : catF c = 0) (hx : x.Ok) (hs : ss.length ≤ 1048576) (hsl : ∀ s ∈ ss, s.length ≤ 1048576) :
    PCtr PP n_impl_peak [encP c, x.enc false false, encSS ss] (.tup [i64 (pkI c x ss).1, i64 (pkI c x ss).2.1, i64 (pkI c x ss).2.2]) := by
  obtain ⟨Ω, hΩ⟩ : ∃ Ω, Ω = std := ⟨_, rfl⟩
  have hmid := hx.midF
  have hcp := c_copied x hx.n hx.d
  have htot := c_total x hx.n hx.t
  have hfr := hx.t
  obtain ⟨E, hE⟩ : ∃ E : List Fil → List A, ∀ l, l.map (Fil.enc false) = E l := ⟨_, fun _ => rfl⟩
  have hEl : ∀ l, Ω.len (E l) = (E l).length := fun l => by subst hΩ; rfl
  have hEn : ∀ l, (E l).length = l.length := fun l => by rw [← hE, List.length_map]
  have hEz : ∀ l, (E l).map frz = E l := fun l => by rw [← hE, List.map_map]; exact List.map_congr_left fun f _ => frz_encF f
  have hEt : ∀ l, Ω.take (Ω.len (E l)) (E l) = E l := fun l => takeAll hΩ _
  have hEno : ∀ l, (flat (E l)).all noOwn = true := fun l => by
    rw [← hE, List.all_eq_true]
    intro y hy
    obtain ⟨x0, hx0, hy⟩ := List.mem_flatMap.1 hy
    obtain ⟨f, _, rfl⟩ := List.mem_map.1 hx0
    simp only [Fil.enc, A.cells, List.mem_cons, List.not_mem_nil, or_false] at hy
    rcases hy with rfl | rfl <;> rfl
  obtain ⟨tt, htt⟩ : ∃ tt : List Fil → Int, ∀ l, (totL l : Int) = tt l := ⟨_, fun _ => rfl⟩
  rw [htt] at htot
  have htb : ∀ l m, MidF m l → m ≤ 100000 → 0 ≤ tt l ∧ tt l ≤ 400000000 := fun l m h hm => by have := h.t; rw [← htt]; omega
  have htp : ∀ l (f : Fil), tt (putF l f) = tt l + ((f.d.length : Int) - ((datF l f.p).length : Int)) := fun l f => by have := putF_tot (l := l) (f := f); rw [← htt, ← htt]; omega
  have hmsd : ∀ (l : List Fil) (m : Int) (w : List Fil) (j : Nat) (f : Fil), w[j]? = some f → mstF l m (w.drop j) = mstF (putF l f) (if m < tt (putF l f) then tt (putF l f) else m) (w.drop (j + 1)) := fun l m w j f h => by rw [mstF_drop h, htt]
  have hmxl : ∀ l m (f : Fil), Ω.mx m (tt (putF l f)) = if m < tt (putF l f) then tt (putF l f) else m := fun l m f => by subst hΩ; rfl
  have hadl : ∀ l k (f : Fil), MidF k l → k < 100000 → f.p.length ≤ 40 → f.d.length ≤ 4000 → Ω.ar .add .i64 (tt l) ((f.d.length : Int) - ((datF l f.p).length : Int)) = tt (putF l f) := fun l k f h hk hp hd => by
    have h1 := htb _ _ h (by omega)
    have h2 := htb _ _ (h.put hp hd) (by omega)
    have h3 := htp l f
    subst hΩ
    show IntKind.i64.wrap (tt l + ((f.d.length : Int) - ((datF l f.p).length : Int))) = _
    rw [h3, wrap64 (by omega) (by omega)]
  have hpn : ∀ l m, pkS c l m [] = (m, tt l, 0) := fun l m => by rw [pkS, htt]
  -- what is called
  have hset := fun s (h : s ∈ ss) => c_implSetFault c s hl ho (hsl s h)
  have hD : ∀ l m, MidF m l → m ≤ 100000 → ∃ y : Dsk, y.f = l ∧ y.Mid ∧ y.bg = x.bg ∧ y.wr = x.wr ∧ y.st = x.st ∧ y.dn = x.dn := fun l m h hm => ⟨{ x with f := l }, rfl, ⟨by show l.length ≤ _; have := h.n; omega, h.o, h.d⟩, rfl, rfl, rfl, rfl⟩
  have hnx : ∀ l m, MidF m l → m ≤ 100000 → PCtr PP n_impl_Disk_next [.agg [.sl false 2 (E l), i64 x.bg, i64 x.wr, i64 x.st, boo x.dn]] (i64 (nxtF l)) := fun l m h hm => by
    have := c_next { x with f := l } (by show l.length ≤ _; have := h.n; omega) (fun f hf => by have := h.p f hf; omega)
    unfold Dsk.enc at this
    rw [← hE]; exact this
  have hwr : ∀ l m s, MidF m l → m ≤ 100000 → Told c s → nxtF l ≤ 999999 → MCtr PP n_impl_writes [encP c, .agg [.sl true 2 (E l), i64 x.bg, i64 x.wr, i64 x.st, boo x.dn], .sl false 1 (s.map i64)] (.sl true 2 (E (wrtF c l s))) [encP c, .agg [.sl true 2 (E l), i64 x.bg, i64 x.wr, i64 x.st, boo x.dn], .sl false 1 (s.map i64)] := fun l m s h hm hk hn => by
    have := c_writes c { x with f := l } s hl hc ⟨by show l.length ≤ _; have := h.n; omega, h.o, h.d⟩ (fun f hf => by have := h.p f hf; omega) hk hn
    unfold Dsk.enc at this
    rw [← hE, ← hE]; exact this
  have hmr : ∀ l m (f : Fil), MidF m l → m ≤ 100000 → f.d.length ≤ 4000 → PCtr PP n_impl_Disk_more [.agg [.sl false 2 (E l), i64 x.bg, i64 x.wr, i64 x.st, boo x.dn], f.enc false] (i64 ((f.d.length : Int) - ((datF l f.p).length : Int))) := fun l m f h hm hd => by
    have := c_more { x with f := l } f ⟨by show l.length ≤ _; have := h.n; omega, h.o, h.d⟩ (by omega)
    unfold Dsk.enc at this
    rw [← hE]; exact this
  have hpt : ∀ l m (f : Fil), MidF m l → m ≤ 100000 → f.d.length ≤ 4000 → MCtr PP n_impl_Disk_put [.bx [.sl true 2 (E l), i64 x.bg, i64 x.wr, i64 x.st, boo x.dn], str f.p, .sl false 1 (f.d.map byteA)] (.tup []) [.bx [.sl true 2 (E (putF l f)), i64 x.bg, i64 x.wr, i64 x.st, boo x.dn], str f.p, .sl false 1 (f.d.map byteA)] := fun l m f h hm hd => by
    have := c_put { x with f := l } f.p f.d (by show l.length ≤ _; have := h.n; omega) h.o (by omega)
    rw [← hE, ← hE]; exact this
  -- what it answers
  obtain ⟨R, hR⟩ : ∃ R, R = pkI c x ss := ⟨_, rfl⟩
  rw [← hR]
  unfold pkI at hR
  have hR0 : 40 < ss.length → R = (0, 0, 2) := fun h => by rw [hR, if_pos h]
  have hR1 : ¬ 40 < ss.length → firstF (setF c) ss ≠ 0 → R = (0, 0, firstF (setF c) ss) := fun h h1 => by rw [hR, if_neg h, if_pos h1]
  have hR2 : ¬ 40 < ss.length → firstF (setF c) ss = 0 → pkS c x.f (tt x.f) ss = R := fun h h1 => by rw [← htt, hR, if_neg h, if_neg (by simpa using h1)]
  clear hR
  have hff : ∀ i s, ss[i]? = some s → firstF (setF c) (ss.drop i) = if setF c s ≠ 0 then setF c s else firstF (setF c) (ss.drop (i + 1)) := fun i s h => firstF_at _ h
  have hfn : firstF (setF c) (ss.drop ss.length) = 0 := by rw [List.drop_length]; rfl
  have hf0 : firstF (setF c) (ss.drop 0) = firstF (setF c) ss := by rw [List.drop_zero]
  have hok : firstF (setF c) ss = 0 → ∀ s ∈ ss, Told c s := fun h s hs => setF_told (firstF_zero.1 h s hs)
  generalize hfg : firstF (setF c) ss = e0 at *
  obtain ⟨qs, hqs⟩ : ∃ qs, qs = ss.map fun s => A.sl false 1 (s.map i64) := ⟨_, rfl⟩
  have hql : qs.length = ss.length := by rw [hqs, List.length_map]
  have hqo : Ω.len qs = qs.length := by subst hΩ; rfl
  unfold encSS
  rw [← hqs]
  unfold Dsk.enc at hcp htot ⊢
  unfold encP at *
  rw [hE] at hcp htot ⊢
  generalize c.map (Pck.enc false) = cs at *
  generalize x.bg = v1 at *
  generalize x.wr = v2 at *
  generalize x.st = v3 at *
  generalize x.dn = v4 at *
  have htab := tab
  have hmo := hmo
  refine PCtr.walk tab hΩ fn_impl_peak rfl ?_
  generalize PP = P at *
  cbv
  refine br (fun h => ?_) (fun h => ?_) <;> cbv
  · replace h := gtZt hΩ h
    have h40 : 40 < ss.length := by
      subst hΩ
      have h : (40 : Int) < ((qs.length : Nat) : Int) := h
      omega
    rw [hR0 h40]
    exact .same
  · replace h := gtZf hΩ h
    have h40 : ¬ 40 < ss.length := by
      subst hΩ
      have h : ((qs.length : Nat) : Int) ≤ (40 : Int) := h
      omega
    replace hR1 := hR1 h40
    replace hR2 := hR2 h40
    refine loopX htab hΩ (fun i : Nat => ⟨[(0, .sl false 8 cs), (2, .sl false 1 qs), (4, .pt 0 0 0), (21, .sl false 1 qs), (22, i64 (Ω.int (Ω.len qs))), (23, i64 (Ω.int i))], 74,
      [some ⟨5, [.agg [.sl false 2 (E x.f), i64 v1, i64 v2, i64 v3, boo v4]], true⟩]⟩) (fun i => i ≤ ss.length ∧ firstF (setF c) (ss.drop i) = e0) (fun i => ss.length - i) 0 ⟨Nat.zero_le _, hf0⟩
      (Sbs.mk rfl rfl ⟨rfl, rfl, rfl, rfl, rfl, zeroI hΩ, trivial⟩) (fun i hi => ?_)
    obtain ⟨hi, hie⟩ := hi
    cbv
    refine br (fun h => ?_) (fun h => ?_) <;> cbv
    · replace h := ltI hΩ h
      obtain ⟨s, hsi⟩ := at_of (cs := ss) (by omega : i < ss.length)
      have hst := hset s (List.mem_of_getElem? hsi)
      have hf := hff i s hsi
      generalize setF c s = g at *
      refine ⟨⟨nnI hΩ⟩, _, rdI hΩ hqs hsi, ?_⟩
      generalize s.map i64 = sa at *
      cbv
      refine call_pure hΩ 4 hst rfl (fits _) rfl rfl ?_
      cbv
      refine br (fun h => ?_) (fun h => ?_) <;> cbv
      · have h : g ≠ 0 := neZt hΩ h
        have hg : g = e0 := by rw [← hie, hf, if_pos h]
        rw [hR1 (by rw [← hg]; exact h), ← hg]
        exact .same
      · have h : g = 0 := neZf hΩ h
        exact ⟨i + 1, ⟨by omega, by rw [← hie, hf, if_neg (by simpa using h)]⟩, by omega, Sbs.mk rfl rfl ⟨rfl, rfl, rfl, rfl, rfl, incI hΩ (by omega), trivial⟩⟩
    · replace h := geI hΩ h
      obtain rfl : i = ss.length := by omega
      have he0 : e0 = 0 := by rw [← hie, hfn]
      have hR2 := hR2 he0
      have hok := hok he0
      refine call_share hΩ 4 hcp rfl (fits _) rfl ?_
      cbv
      refine call_pure hΩ 4 htot (mapO1 (ro_agg5 (ro_vw rfl (hEl _) (hEz _)) rfl rfl rfl rfl)) (fits _) rfl rfl ?_
      cbv
      refine loopX htab hΩ (fun i : Nat × List Fil × Int => ⟨[(0, .sl false 8 cs), (2, .sl false 1 qs), (4, .pt 0 0 0), (12, i64 (tt i.2.1)), (13, i64 i.2.2), (39, .sl false 1 qs), (40, i64 (Ω.int (Ω.len qs))), (41, i64 (Ω.int i.1))], 74,
        [some ⟨5, [.agg [.vw 1 0 (Ω.len (E i.2.1)), i64 v1, i64 v2, i64 v3, boo v4]], true⟩, some ⟨2, E i.2.1, false⟩]⟩)
        (fun i => i.1 ≤ ss.length ∧ MidF (120 + 26 * i.1) i.2.1 ∧ pkS c i.2.1 i.2.2 (ss.drop i.1) = R ∧ tt i.2.1 ≤ i.2.2 ∧ i.2.2 ≤ 1099511627776) (fun i => ss.length - i.1) (0, x.f, tt x.f) ⟨Nat.zero_le _, hmid, hR2, Int.le_refl _, by have := htb _ _ hmid (by omega); show tt x.f ≤ _; omega⟩
        (Sbs.mk rfl rfl ⟨rfl, rfl, rfl, rfl, rfl, rfl, rfl, zeroI hΩ, trivial⟩) ?_
      rintro ⟨i, l, m⟩ ⟨hi, hm, hp, hmt, hmb⟩
      dsimp only at hi hm hp hmt hmb ⊢
      cbv
      refine br (fun h => ?_) (fun h => ?_) <;> cbv
      · replace h := ltI hΩ h
        obtain ⟨s, hsi⟩ := at_of (cs := ss) (by omega : i < ss.length)
        have htd := hok s (List.mem_of_getElem? hsi)
        have hpd := pkS_drop (c := c) (l := l) (m := m) hsi
        have hnx1 := hnx l _ hm (by omega)
        have hwr1 := hwr l _ s hm (by omega) htd
        have hws := fun h => wrtF_small hc (l := l) htd h
        generalize wrtF c l s = w at *
        generalize nxtF l = nx at *
        refine ⟨⟨nnI hΩ⟩, _, rdI hΩ hqs hsi, ?_⟩
        generalize s.map i64 = sa at *
        cbv
        refine call_pure hΩ 4 hnx1 (mapO1 (ro_agg5 (ro_vw rfl (hEl _) (hEz _)) rfl rfl rfl rfl)) (fits _) rfl rfl ?_
        cbv
        refine br (fun h => ?_) (fun h => ?_) <;> cbv
        · have h := gtZt hΩ h
          rw [← hp, hpd, if_pos h]
          exact .same
        · have h := gtZf hΩ h
          rw [if_neg (by omega)] at hpd
          have hwr1 := hwr1 h
          obtain ⟨hw26, hws⟩ := hws h
          refine call_sub 1000 rfl rfl rfl rfl (Sbs.refl _) ?_
          refine call_mut hΩ 4 (l := [] ++ (([(1, E l)] ++ ([] ++ ([] ++ ([] ++ ([] ++ []))))) ++ ([] ++ []))) hwr1 (.cons (.data rfl rfl) (.cons (.agg (.cons (mutVw rfl (hEl _) rfl) (.cons (.data rfl rfl) (.cons (.data rfl rfl) (.cons (.data rfl rfl) (.cons (.data rfl rfl) .nil)))))) (.cons (.data rfl rfl) .nil))) (by simp) rfl ?_
          refine ⟨.sl false 2 (E w), ⟨[(0, .sl false 8 cs), (2, .sl false 1 qs), (4, .pt 0 0 0), (12, i64 (tt l)), (13, i64 m), (39, .sl false 1 qs), (40, i64 (Ω.int (Ω.len qs))), (41, i64 (Ω.int i))], 74, [some ⟨5, [.agg [.vw 1 0 (Ω.len (E l)), i64 v1, i64 v2, i64 v3, boo v4]], true⟩, some ⟨2, E l, false⟩]⟩, rfl, rfl,
            Sbs.trans (Sbs.thaw0 (r := 2) rfl rfl (hEno _)) (Sbs.trans (Sbs.cut 2 rfl) (Sbs.mk rfl rfl ⟨by show A.sl false 2 (((E w).drop 0).take (Ω.len (E w))) = _; rw [List.drop_zero, hEl, List.take_length], rfl, rfl, rfl, rfl, rfl, rfl, rfl, rfl, trivial⟩)), ?_⟩
          cbv
          refine loopX htab hΩ (fun j : Nat × List Fil × Int => ⟨[(0, .sl false 8 cs), (2, .sl false 1 qs), (4, .pt 0 0 0), (12, i64 (tt j.2.1)), (13, i64 j.2.2), (39, .sl false 1 qs), (40, i64 (Ω.int (Ω.len qs))), (41, i64 (Ω.int i)), (51, .sl false 2 (E w)), (52, i64 (Ω.int (Ω.len (E w)))), (53, i64 (Ω.int j.1))], 74,
            [some ⟨5, [.agg [.vw 1 0 (Ω.len (E j.2.1)), i64 v1, i64 v2, i64 v3, boo v4]], true⟩, some ⟨2, E j.2.1, false⟩]⟩)
            (fun j => j.1 ≤ w.length ∧ MidF (120 + 26 * i + j.1) j.2.1 ∧ layF j.2.1 (w.drop j.1) = layF l w ∧ mstF j.2.1 j.2.2 (w.drop j.1) = mstF l m w ∧ tt j.2.1 ≤ j.2.2 ∧ j.2.2 ≤ 1099511627776) (fun j => w.length - j.1) (0, l, m) ⟨Nat.zero_le _, hm, rfl, rfl, hmt, hmb⟩
            (Sbs.mk rfl rfl ⟨rfl, rfl, rfl, rfl, rfl, rfl, rfl, rfl, rfl, rfl, zeroI hΩ, trivial⟩) ?_
          rintro ⟨j, l', m'⟩ ⟨hj, hm', hla, hms, hmt', hmb'⟩
          dsimp only at hj hm' hla hms hmt' hmb' ⊢
          cbv
          refine br (fun h' => ?_) (fun h' => ?_) <;> cbv
          · have h' : j < w.length := by have := ltI hΩ h'; rw [hEn] at this; exact this
            obtain ⟨f, hf⟩ := at_of (cs := w) h'
            obtain ⟨hfp, hfd⟩ := hws f (List.mem_of_getElem? hf)
            have hla1 := layF_drop (l := l') (l0 := l') hf
            have hms1 := hmsd l' m' w j f hf
            have hmr1 := hmr l' _ f hm' (by omega) hfd
            have hpt1 := hpt l' _ f hm' (by omega) hfd
            have hm1 := hm'.put hfp hfd
            have hb1 := htb _ _ hm1 (by omega)
            have hrd : (E w)[(Ω.int j).toNat]? = some (.agg [str f.p, .sl false 1 (f.d.map byteA)]) := rdI (f := Fil.enc false) hΩ (hE w).symm hf
            have hadd := hadl l' _ f hm' (by omega) hfp hfd
            have hmx := hmxl l' m' f
            unfold Fil.enc at hmr1
            generalize ((f.d.length : Int) - ((datF l' f.p).length : Int)) = dl at *
            generalize f.d.map byteA = fb at *
            generalize putF l' f = l1 at *
            generalize f.p = fp at *
            obtain ⟨m1, hm1e⟩ : ∃ m1, m1 = if m' < tt l1 then tt l1 else m' := ⟨_, rfl⟩
            rw [← hm1e] at hmx hms1
            have hm1a : tt l1 ≤ m1 ∧ m1 ≤ 1099511627776 := by rw [hm1e]; split <;> omega
            clear hm1e
            refine ⟨⟨nnI hΩ⟩, _, hrd, ?_⟩
            cbv
            refine call_pure hΩ 4 hmr1 (mapO2 (ro_agg5 (ro_vw rfl (hEl _) (hEz _)) rfl rfl rfl rfl) rfl) (fits _) rfl rfl ?_
            cbv
            refine call_sub 1000 (args' := [.pt 0 0 0, str fp, .sl false 1 fb]) (S' := ⟨[(0, .sl false 8 cs), (2, .sl false 1 qs), (4, .pt 0 0 0), (12, i64 (tt l1)), (13, i64 m1), (39, .sl false 1 qs), (40, i64 (Ω.int (Ω.len qs))), (41, i64 (Ω.int i)), (51, .sl false 2 (E w)), (52, i64 (Ω.int (Ω.len (E w)))), (53, i64 (Ω.int j))], 74, [some ⟨5, [.agg [.sl true 2 (E l'), i64 v1, i64 v2, i64 v3, boo v4]], true⟩]⟩) rfl rfl rfl rfl
              (Sbs.trans (Sbs.foldCell (r := 0) (j := 0) (q := 0) (r2 := 1) rfl rfl rfl rfl (Nat.le_of_eq (hEl _)) (by show (E l').take (Ω.len (E l')) = E l'; rw [hEl, List.take_length]) rfl rfl rfl) (Sbs.trans (Sbs.cut 1 rfl) (Sbs.mk rfl rfl ⟨rfl, rfl, rfl, rfl, rfl, rfl, by show i64 (Ω.ar .add .i64 (tt l') dl) = _; rw [hadd], by show i64 (Ω.mx m' (Ω.ar .add .i64 (tt l') dl)) = _; rw [hadd, hmx], rfl, rfl, rfl, rfl, rfl, rfl, trivial⟩))) ?_
            refine call_mut hΩ 4 (l := [(0, [.agg [.sl true 2 (E l1), i64 v1, i64 v2, i64 v3, boo v4]])] ++ ([] ++ ([] ++ []))) hpt1 (.cons (mutPt rfl rfl rfl) (.cons (.data rfl rfl) (.cons (.data rfl rfl) .nil))) (by simp) rfl ?_
            refine ⟨.tup [], ⟨[(0, .sl false 8 cs), (2, .sl false 1 qs), (4, .pt 0 0 0), (12, i64 (tt l1)), (13, i64 m1), (39, .sl false 1 qs), (40, i64 (Ω.int (Ω.len qs))), (41, i64 (Ω.int i)), (51, .sl false 2 (E w)), (52, i64 (Ω.int (Ω.len (E w)))), (53, i64 (Ω.int j))], 74, [some ⟨5, [.agg [.vw 1 0 (Ω.len (E l1)), i64 v1, i64 v2, i64 v3, boo v4]], true⟩, some ⟨2, E l1, false⟩]⟩, rfl, rfl,
              Sbs.trans (Sbs.ownCell (r := 0) (j := 0) (q := 0) (n := 2) (ys := E l1) rfl rfl rfl rfl rfl) (Sbs.mk rfl (by show [some (Row.mk 5 [A.agg [.vw 1 0 (E l1).length, i64 v1, i64 v2, i64 v3, boo v4]] true), some (Row.mk 2 (E l1) false)] = _; rw [← hEl]; rfl) ⟨rfl, rfl, rfl, rfl, rfl, rfl, rfl, rfl, rfl, rfl, rfl, rfl, trivial⟩), ?_⟩
            cbv
            exact ⟨(j + 1, l1, m1), ⟨h', hm1, hla1.symm.trans hla, hms1.symm.trans hms, hm1a.1, hm1a.2⟩, by dsimp only; omega, Sbs.mk rfl rfl ⟨rfl, rfl, rfl, rfl, rfl, rfl, rfl, rfl, rfl, rfl, incI hΩ (by omega), trivial⟩⟩
          · have h' : w.length ≤ j := by have := geI hΩ h'; rw [hEn] at this; exact this
            obtain rfl : j = w.length := by omega
            rw [List.drop_length] at hla hms
            have hla : l' = layF l w := hla
            have hms : m' = mstF l m w := hms
            exact ⟨(i + 1, l', m'), ⟨by dsimp only; omega, hm'.mono (by dsimp only; omega), by dsimp only; rw [hla, hms, ← hpd]; exact hp, hmt', hmb'⟩, by dsimp only; omega, Sbs.mk rfl rfl ⟨rfl, rfl, rfl, rfl, rfl, rfl, rfl, incI hΩ (by omega), trivial⟩⟩
      · replace h := geI hΩ h
        obtain rfl : i = ss.length := by omega
        rw [List.drop_length, hpn] at hp
        rw [← hp]
        exact .same
end Go.Proofs.YtljjcffnomdhhaaGreatDoor

/- Walks: how much there is at the most, by the reference. Plain theorems. -/
set_option linter.unusedVariables false
set_option linter.unusedSimpArgs false
namespace Go.Proofs.YtljjcffnomdhhaaGreatDoor
open Go Go.Fw
set_option maxRecDepth 100000
theorem c_l1Max (a b : Int) : PCtr PP n_spec_l1Max [i64 a, i64 b] (i64 (if a < b then b else a)) := by
  obtain ⟨Ω, hΩ⟩ : ∃ Ω, Ω = std := ⟨_, rfl⟩
  obtain ⟨r, hr⟩ : ∃ r, r = if a < b then b else a := ⟨_, rfl⟩
  rw [← hr]
  have htab := tab
  refine PCtr.walk tab hΩ fn_spec_l1Max rfl ?_
  generalize PP = P at *
  cbv
  refine br (fun h => ?_) (fun h => ?_) <;> cbv
  · have h := gtZt hΩ h
    rw [if_neg (by omega)] at hr
    rw [hr]; exact .same
  · have h := gtZf hΩ h
    by_cases e : a < b
    · rw [if_pos e] at hr; rw [hr]; exact .same
    · rw [if_neg e] at hr
      obtain rfl : r = b := by omega
      exact .same
/-- The next file that is laid. -/
theorem lay_next {l l' : List Fil} {w : List Fil} {m m' : Int} {j : Nat} {f : Fil} (h : w[j]? = some f) (h1 : layF l' (w.drop j) = layF l w) (h2 : mstF l' m' (w.drop j) = mstF l m w) :
    layF (putF l' f) (w.drop (j + 1)) = layF l w ∧ mstF (putF l' f) (if m' < (totL (putF l' f) : Int) then (totL (putF l' f) : Int) else m') (w.drop (j + 1)) = mstF l m w :=
  ⟨(layF_drop (l0 := l) h).symm.trans h1, (mstF_drop h).symm.trans h2⟩
theorem c_l14Peak (c : List Pck) (x : Dsk) (ss : List (List Int)) (hl : c.length ≤ 1048576) (hc : catF c = 0) (hx : x.Ok) (hs : ss.length ≤ 40) (hok : ∀ s ∈ ss, Told c s) :
    PCtr PP n_spec_l14Peak [encP c, x.see, encSS ss] (.tup [i64 (pkS c x.f (totL x.f) ss).1, i64 (pkS c x.f (totL x.f) ss).2.1, i64 (pkS c x.f (totL x.f) ss).2.2]) := by
  obtain ⟨Ω, hΩ⟩ : ∃ Ω, Ω = std := ⟨_, rfl⟩
  have hmid := hx.midF
  have hcp := c_l7Copy x hx.n hx.d
  obtain ⟨E, hE⟩ : ∃ E : List Fil → List A, ∀ l, l.map (Fil.enc false) = E l := ⟨_, fun _ => rfl⟩
  have hEl : ∀ l, Ω.len (E l) = (E l).length := fun l => by subst hΩ; rfl
  have hEn : ∀ l, (E l).length = l.length := fun l => by rw [← hE, List.length_map]
  have hEz : ∀ l, (E l).map frz = E l := fun l => by rw [← hE, List.map_map]; exact List.map_congr_left fun f _ => frz_encF f
  have hEt : ∀ l, Ω.take (Ω.len (E l)) (E l) = E l := fun l => takeAll hΩ _
  have hEno : ∀ l, (flat (E l)).all noOwn = true := fun l => by
    rw [← hE, List.all_eq_true]
    intro y hy
    obtain ⟨x0, hx0, hy⟩ := List.mem_flatMap.1 hy
    obtain ⟨f, _, rfl⟩ := List.mem_map.1 hx0
    simp only [Fil.enc, A.cells, List.mem_cons, List.not_mem_nil, or_false] at hy
    rcases hy with rfl | rfl <;> rfl
  obtain ⟨tt, htt⟩ : ∃ tt : List Fil → Int, ∀ l, (totL l : Int) = tt l := ⟨_, fun _ => rfl⟩
  have htb : ∀ l m, MidF m l → m ≤ 100000 → 0 ≤ tt l ∧ tt l ≤ 400000000 := fun l m h hm => by have := h.t; rw [← htt]; omega
  have htp : ∀ l (f : Fil), tt (putF l f) = tt l + ((f.d.length : Int) - ((datF l f.p).length : Int)) := fun l f => by have := putF_tot (l := l) (f := f); rw [← htt, ← htt]; omega
  have hmsd : ∀ (l : List Fil) (m : Int) (w : List Fil) (j : Nat) (f : Fil), w[j]? = some f → mstF l m (w.drop j) = mstF (putF l f) (if m < tt (putF l f) then tt (putF l f) else m) (w.drop (j + 1)) := fun l m w j f h => by rw [mstF_drop h, htt]
  have hmxl : ∀ l m (f : Fil), Ω.mx m (tt (putF l f)) = if m < tt (putF l f) then tt (putF l f) else m := fun l m f => by subst hΩ; rfl
  have hadl : ∀ l k (f : Fil), MidF k l → k < 100000 → f.p.length ≤ 40 → f.d.length ≤ 4000 → Ω.ar .add .i64 (tt l) ((f.d.length : Int) - ((datF l f.p).length : Int)) = tt (putF l f) := fun l k f h hk hp hd => by
    have h1 := htb _ _ h (by omega)
    have h2 := htb _ _ (h.put hp hd) (by omega)
    have h3 := htp l f
    subst hΩ
    show IntKind.i64.wrap (tt l + ((f.d.length : Int) - ((datF l f.p).length : Int))) = _
    rw [h3, wrap64 (by omega) (by omega)]
  have hpn : ∀ l m, pkS c l m [] = (m, tt l, 0) := fun l m => by rw [pkS, htt]
  -- what is called
  have hto : ∀ l m, MidF m l → m ≤ 100000 → PCtr PP n_spec_l7Total [.rp [.sl false 2 (E l), i64 x.bg, i64 x.wr, i64 (-1), boo false]] (i64 (tt l)) := fun l m h hm => by
    have := c_l7Total { x with f := l, st := -1, dn := false } (by show l.length ≤ _; have := h.n; omega) (by show totL l ≤ _; have := h.t; omega)
    unfold Dsk.see at this
    rw [← hE, ← htt]; exact this
  have hnx : ∀ l m, MidF m l → m ≤ 100000 → PCtr PP n_spec_l8Next [.rp [.sl false 2 (E l), i64 x.bg, i64 x.wr, i64 (-1), boo false]] (i64 (nxtF l)) := fun l m h hm => by
    have := c_l8Next { x with f := l, st := -1, dn := false } (by show l.length ≤ _; have := h.n; omega) (fun f hf => by have := h.p f hf; omega) h.o
    unfold Dsk.see at this
    rw [← hE]; exact this
  have hlk : ∀ l m s, MidF m l → m ≤ 100000 → Told c s → PCtr PP n_spec_l8Lacking [encP c, .rp [.sl false 2 (E l), i64 x.bg, i64 x.wr, i64 (-1), boo false], .sl false 1 (s.map i64)] (ints (lackF c l s)) := fun l m s h hm hk => by
    have := c_l8Lacking c { x with f := l, st := -1, dn := false } s hc ⟨by show l.length ≤ _; have := h.n; omega, h.o, h.d⟩ hk
    unfold Dsk.see at this
    rw [← hE]; exact this
  have hpt : ∀ l m (f : Fil), MidF m l → m ≤ 100000 → f.d.length ≤ 4000 → MCtr PP n_spec_l14Lay [.bx [.sl true 2 (E l), i64 x.bg, i64 x.wr, i64 (-1), boo false], str f.p, .sl false 1 (f.d.map byteA)] (.tup []) [.bx [.sl true 2 (E (putF l f)), i64 x.bg, i64 x.wr, i64 (-1), boo false], str f.p, .sl false 1 (f.d.map byteA)] := fun l m f h hm hd => by
    have := c_l14Lay { x with f := l, st := -1, dn := false } f.p f.d (by show l.length ≤ _; have := h.n; omega) h.o (by omega)
    rw [← hE, ← hE]; exact this
  have hmaxl := c_l1Max
  have hpk : ∀ l m w j f m' l', w[j]? = some f → layF l' (w.drop j) = layF l w → mstF l' m' (w.drop j) = mstF l m w → layF (putF l' f) (w.drop (j + 1)) = layF l w ∧ mstF (putF l' f) (if m' < tt (putF l' f) then tt (putF l' f) else m') (w.drop (j + 1)) = mstF l m w := fun l m w j f m' l' h h1 h2 => by
    rw [← htt]; exact lay_next h h1 h2
  have hstl := fun s h => c_l3Text c s hc h
  have hgpl := c_GenPath
  have hdcl : ∀ n : Int, 1 ≤ n → n ≤ 999999 → PCtr PP n_spec_l1Decimal [i64 n] (str (Lib.itoa n)) := fun n h1 h2 => by
    have := c_l1Decimal n.toNat (by omega)
    rw [show ((n.toNat : Nat) : Int) = n by omega] at this
    rw [itoa_dec (by omega)]; exact this
  have hpal : ∀ o : Pck, o.n.length ≤ 12 → verF o.v = 0 → PCtr PP n_spec_l8Path [o.enc false] (str (pathK o)) := fun o h1 h2 => c_l8Path o (by omega) h2
  have hbyl := c_l2Bytes
  have hatl : ∀ k, inB k 0 ((c.length : Int) - 1) = true → _ := fun k h => pk_facts hc h
  -- what it answers
  obtain ⟨R, hR⟩ : ∃ R, R = pkS c x.f (totL x.f) ss := ⟨_, rfl⟩
  rw [← hR]
  rw [htt] at hR
  obtain ⟨qs, hqs⟩ : ∃ qs, qs = ss.map fun s => A.sl false 1 (s.map i64) := ⟨_, rfl⟩
  have hql : qs.length = ss.length := by rw [hqs, List.length_map]
  have hqo : Ω.len qs = qs.length := by subst hΩ; rfl
  unfold encSS
  rw [← hqs]
  unfold Dsk.enc at hcp
  unfold Dsk.see
  obtain ⟨cs, hcs⟩ : ∃ cs, cs = c.map (Pck.enc false) := ⟨_, rfl⟩
  unfold encP at *
  rw [hE] at hcp ⊢
  simp only [← hcs] at hstl hlk hatl ⊢
  clear hcs
  generalize x.bg = v1 at *
  generalize x.wr = v2 at *
  generalize x.st = v3 at *
  generalize x.dn = v4 at *
  have htab := tab
  have hmo := hmo
  refine PCtr.walk tab hΩ fn_spec_l14Peak rfl ?_
  generalize PP = P at *
  cbv
  refine call_share hΩ 4 hcp rfl (fits _) rfl ?_
  cbv
  refine call_pure hΩ 4 (hto _ _ hmid (by omega)) (mapO1 (roPt rfl (mapO5 (ro_vw rfl (hEl _) (hEz _)) rfl rfl rfl rfl))) (fits _) rfl rfl ?_
  cbv
  refine loopX htab hΩ (fun i : Nat × List Fil × Int => ⟨[(0, .sl false 8 cs), (2, .sl false 1 qs), (9, .pt 1 0 0), (10, i64 i.2.2), (11, i64 (Ω.int i.1))], 85, [some ⟨2, E i.2.1, false⟩, some ⟨5, [.agg [.vw 0 0 (Ω.len (E i.2.1)), i64 v1, i64 v2, i64 (-1), boo false]], true⟩]⟩)
    (fun i => i.1 ≤ ss.length ∧ MidF (120 + 26 * i.1) i.2.1 ∧ pkS c i.2.1 i.2.2 (ss.drop i.1) = R) (fun i => ss.length - i.1) (0, x.f, tt x.f) ⟨Nat.zero_le _, hmid, hR.symm⟩
    (Sbs.mk rfl rfl ⟨rfl, rfl, rfl, rfl, zeroI hΩ, trivial⟩) ?_
  rintro ⟨i, l, m⟩ ⟨hi, hm, hp⟩
  dsimp only at hi hm hp ⊢
  have hto1 := hto l _ hm (by omega)
  cbv
  refine br (fun h => ?_) (fun h => ?_) <;> cbv
  · replace h := ltI hΩ h
    obtain ⟨s, hsi⟩ := at_of (cs := ss) (by omega : i < ss.length)
    have htd := hok s (List.mem_of_getElem? hsi)
    have hpd := pkS_drop (c := c) (l := l) (m := m) hsi
    have hnx1 := hnx l _ hm (by omega)
    have hlk1 := hlk l _ s hm (by omega) htd
    have hws := fun h => wrtF_small hc (l := l) htd h
    have hwe := wrtF_eq c l s
    have hLb : (lackF c l s).length ≤ 24 := Nat.le_trans (List.length_filter_le _ _) (by have := htd.len; have := (cat_ok hc).1; omega)
    have hrf := roFInt (lackF c l s)
    have hltd : ∀ k ∈ lackF c l s, inB k 0 ((c.length : Int) - 1) = true := fun k hk => htd.2 k (List.mem_filter.1 hk).1
    have hst := hstl s htd
    have hng := (nxtF_in l).1
    have hgp := hgpl (nxtF l) hng
    have hdc := hdcl (nxtF l) hng
    have hil := itoa_len6 (n := nxtF l) (by omega)
    generalize Lib.itoa (nxtF l) = it at *
    generalize genB (nxtF l) = gp at *
    generalize setT c s = st at *
    generalize wrtF c l s = w at *
    generalize nxtF l = nx at *
    generalize lackF c l s = L at *
    have hwl : w[L.length]? = some ⟨gp, st⟩ ∧ w[L.length + 1]? = some ⟨curP, it⟩ ∧ L.length + 1 + 1 = w.length := by
      rw [hwe]
      refine ⟨by rw [List.getElem?_append_right (by simp)]; simp, by rw [List.getElem?_append_right (by simp)]; simp, by simp⟩
    unfold ints at hlk1
    obtain ⟨ls, hls⟩ : ∃ ls, ls = L.map i64 := ⟨_, rfl⟩
    have hlsl : ls.length = L.length := by rw [hls, List.length_map]
    rw [← hls] at hlk1 hrf
    have hfz : frz (.sl true 1 ls) = .sl false 1 ls := by rw [hls, frz_sl, List.map_map]; rfl
    have hrds : qs[(Ω.int i).toNat]? = some (A.sl false 1 (s.map i64)) := rdI (f := fun s => A.sl false 1 (s.map i64)) hΩ hqs hsi
    generalize s.map i64 = sa at *
    refine call_pure hΩ 4 hnx1 (mapO1 (roPt rfl (mapO5 (ro_vw rfl (hEl _) (hEz _)) rfl rfl rfl rfl))) (fits _) rfl rfl ?_
    cbv
    refine br (fun h => ?_) (fun h => ?_) <;> cbv
    · have h := gtZt hΩ h
      rw [← hp, hpd, if_pos h]
      exact .same
    · have h := gtZf hΩ h
      rw [if_neg (by omega)] at hpd
      obtain ⟨hw26, hws⟩ := hws h
      have hgp := hgp h
      have hdc := hdc h
      refine ⟨⟨nnI hΩ⟩, _, hrds, ?_⟩
      cbv
      refine call_pf hΩ 4 hlk1 (mapO3 rfl (roPt rfl (mapO5 (ro_vw rfl (hEl _) (hEz _)) rfl rfl rfl rfl)) rfl) (fits _) hrf hfz rfl ?_
      cbv
      refine loopX htab hΩ (fun j : Nat × List Fil × Int => ⟨[(0, .sl false 8 cs), (2, .sl false 1 qs), (9, .pt 1 0 0), (10, i64 j.2.2), (11, i64 (Ω.int i)), (12, i64 nx), (13, .sl false 1 ls), (14, i64 (Ω.int j.1))], 85, [some ⟨2, E j.2.1, false⟩, some ⟨5, [.agg [.vw 0 0 (Ω.len (E j.2.1)), i64 v1, i64 v2, i64 (-1), boo false]], true⟩]⟩)
        (fun j => j.1 ≤ L.length ∧ MidF (120 + 26 * i + j.1) j.2.1 ∧ layF j.2.1 (w.drop j.1) = layF l w ∧ mstF j.2.1 j.2.2 (w.drop j.1) = mstF l m w) (fun j => L.length - j.1) (0, l, m) ⟨Nat.zero_le _, hm, rfl, rfl⟩
        (Sbs.mk rfl rfl ⟨rfl, rfl, rfl, rfl, rfl, rfl, rfl, zeroI hΩ, trivial⟩) ?_
      rintro ⟨j, l', m'⟩ ⟨hj, hm', hla, hms⟩
      dsimp only at hj hm' hla hms ⊢
      cbv
      refine br (fun h' => ?_) (fun h' => ?_) <;> cbv
      · have h' : j < L.length := by have := ltI hΩ h'; omega
        obtain ⟨k, hk⟩ := at_of (cs := L) h'
        obtain ⟨k0, hat, hn, hv, hsz, hbl⟩ := hatl k (hltd k (List.mem_of_getElem? hk))
        have hwj : w[j]? = some (filK (pk c k)) := by rw [hwe, List.getElem?_append_left (by simpa using h'), List.getElem?_map, hk]; rfl
        obtain ⟨hfp, hfd⟩ := hws _ (List.mem_of_getElem? hwj)
        obtain ⟨hla1, hms1⟩ := hpk l m w j _ m' l' hwj hla hms
        have hpt1 := hpt l' _ (filK (pk c k)) hm' (by omega) hfd
        have hm1 := hm'.put hfp hfd
        have hto2 := hto _ _ hm1 (by omega)
        have hpa := hpal (pk c k) hn hv
        have hby := hbyl (pk c k) hn hv hsz
        have hrb := roF_B (bytK (pk c k))
        have hfb : frz (.sl true 1 ((bytK (pk c k)).map byteA)) = .sl false 1 ((bytK (pk c k)).map byteA) := by rw [frz_sl, frz_B1]
        have hmx := hmaxl m' (tt (putF l' (filK (pk c k))))
        generalize putF l' (filK (pk c k)) = l1 at *
        unfold filK at hpt1
        dsimp only at hpt1
        generalize (bytK (pk c k)).map byteA = bs at *
        generalize pathK (pk c k) = p at *
        generalize pk c k = o at *
        generalize (if m' < tt l1 then tt l1 else m') = m1 at *
        obtain ⟨ps, dd, bb, hen, -, -, -⟩ := enc_raw o
        rw [hen] at hat hpa hby
        refine ⟨VC_pl htab hΩ hmo (.qs [0, 1, 2, 3, 4, 5, 6, 8, 9, 10, 11, 12, 13, 14] (.s 7 (.s 15 (.s 16 .fin)))) (by kernel_rfl) ?_⟩
        cbv
        have hrdk : ls[(Ω.int j).toNat]? = some (i64 k) := rdI hΩ hls hk
        refine ⟨⟨nnI hΩ⟩, _, hrdk, ?_⟩
        cbv
        refine ⟨⟨k0⟩, _, hat, ?_⟩
        cbv
        refine ⟨⟨nnI hΩ⟩, _, hrdk, ?_⟩
        cbv
        refine ⟨⟨k0⟩, _, hat, ?_⟩
        cbv
        refine call_pure hΩ 4 hpa rfl (fits _) rfl rfl ?_
        cbv
        refine call_pf hΩ 4 hby rfl (fits _) hrb hfb rfl ?_
        cbv
        refine call_sub 1000 (args' := [.pt 1 0 0, str p, .sl false 1 bs]) (S' := ⟨[(0, .sl false 8 cs), (2, .sl false 1 qs), (9, .pt 1 0 0), (10, i64 m'), (11, i64 (Ω.int i)), (12, i64 nx), (13, .sl false 1 ls), (14, i64 (Ω.int j))], 85, [none, some ⟨5, [.agg [.sl true 2 (E l'), i64 v1, i64 v2, i64 (-1), boo false]], true⟩]⟩) rfl rfl rfl rfl
          (Sbs.trans (Sbs.foldCell (r := 1) (j := 0) (q := 0) (r2 := 0) rfl rfl rfl rfl (Nat.le_of_eq (hEl _)) (by show (E l').take (Ω.len (E l')) = E l'; rw [hEl, List.take_length]) rfl rfl rfl) (Sbs.trans (Sbs.cut 2 rfl) (Sbs.mk rfl rfl ⟨rfl, rfl, rfl, rfl, rfl, rfl, rfl, rfl, rfl, rfl, rfl, trivial⟩))) ?_
        refine call_mut hΩ 4 (l := [(1, [.agg [.sl true 2 (E l1), i64 v1, i64 v2, i64 (-1), boo false]])] ++ ([] ++ ([] ++ []))) hpt1 (.cons (mutPt rfl rfl rfl) (.cons (.data rfl rfl) (.cons (.data rfl rfl) .nil))) (by simp) rfl ?_
        refine ⟨.tup [], ⟨[(0, .sl false 8 cs), (2, .sl false 1 qs), (9, .pt 1 0 0), (10, i64 m'), (11, i64 (Ω.int i)), (12, i64 nx), (13, .sl false 1 ls), (14, i64 (Ω.int j))], 85, [some ⟨2, E l1, false⟩, some ⟨5, [.agg [.vw 0 0 (Ω.len (E l1)), i64 v1, i64 v2, i64 (-1), boo false]], true⟩]⟩, rfl, rfl,
          Sbs.trans (Sbs.ownCell (r := 1) (j := 0) (q := 0) (n := 2) (ys := E l1) rfl rfl rfl rfl rfl) (Sbs.trans (Sbs.mv (a := 2) (b := 0) rfl rfl (Nat.succ_pos 2)) (Sbs.trans (Sbs.cut 2 rfl) (Sbs.mk rfl (by show [some (Row.mk 2 (E l1) false), some (Row.mk 5 [A.agg [.vw 0 0 (E l1).length, i64 v1, i64 v2, i64 (-1), boo false]] true)] = _; rw [← hEl]; rfl) ⟨rfl, rfl, rfl, rfl, rfl, rfl, rfl, rfl, rfl, trivial⟩))), ?_⟩
        cbv
        refine call_pure hΩ 4 hto2 (mapO1 (roPt rfl (mapO5 (ro_vw rfl (hEl _) (hEz _)) rfl rfl rfl rfl))) (fits _) rfl rfl ?_
        cbv
        refine call_pure hΩ 4 hmx rfl (fits _) rfl rfl ?_
        cbv
        exact ⟨(j + 1, l1, m1), ⟨h', hm1, hla1, hms1⟩, by dsimp only; omega, Sbs.mk rfl rfl ⟨rfl, rfl, rfl, rfl, rfl, rfl, rfl, incI hΩ (by omega), trivial⟩⟩
      · have h' : L.length ≤ j := by have := geI hΩ h'; omega
        obtain rfl : j = L.length := by omega
        have e1 : w[L.length]? = some ⟨gp, st⟩ := hwl.1
        have e2 : w[L.length + 1]? = some ⟨curP, it⟩ := hwl.2.1
        obtain ⟨f1p, f1d⟩ := hws _ (List.mem_of_getElem? e1)
        obtain ⟨f2p, f2d⟩ := hws _ (List.mem_of_getElem? e2)
        obtain ⟨a1, b1⟩ := hpk l m w _ _ m' l' e1 hla hms
        have hp1 := hpt l' _ ⟨gp, st⟩ hm' (by omega) f1d
        have hm1 := hm'.put f1p f1d
        have ht1 := hto _ _ hm1 (by omega)
        have hx1 := hmaxl m' (tt (putF l' ⟨gp, st⟩))
        generalize putF l' ⟨gp, st⟩ = l1 at *
        generalize (if m' < tt l1 then tt l1 else m') = m1 at *
        obtain ⟨a2, b2⟩ := hpk l m w _ _ m1 l1 e2 a1 b1
        have hp2 := hpt l1 _ ⟨curP, it⟩ hm1 (by omega) f2d
        have hm2 := hm1.put f2p f2d
        have ht2 := hto _ _ hm2 (by omega)
        have hx2 := hmaxl m1 (tt (putF l1 ⟨curP, it⟩))
        generalize putF l1 ⟨curP, it⟩ = l2 at *
        generalize (if m1 < tt l2 then tt l2 else m1) = m2 at *
        rw [hwl.2.2, List.drop_length] at a2 b2
        dsimp only at hp1 hp2
        obtain ⟨sb, hsb⟩ : ∃ sb, sb = st.map byteA := ⟨_, rfl⟩
        obtain ⟨ib, hib⟩ : ∃ ib, ib = it.map byteA := ⟨_, rfl⟩
        rw [← hsb] at hp1
        rw [← hib] at hp2
        refine ⟨VC_pl htab hΩ hmo (.qs [0, 2, 3, 4, 5, 6] (.s 1 (.s 7 (.s 8 (.s 9 .fin))))) (by kernel_rfl) ?_⟩
        cbv
        refine ⟨⟨nnI hΩ⟩, _, hrds, ?_⟩
        cbv
        refine call_pure hΩ 4 hgp rfl (fits _) rfl rfl ?_
        cbv
        refine call_pure hΩ 4 hst rfl (fits _) rfl rfl ?_
        cbv
        refine ⟨sb, ⟨hsb, Nat.le_trans f1d (by decide)⟩, ?_⟩
        cbv
        refine call_sub 1000 (args' := [.pt 1 0 0, str gp, .sl false 1 sb]) (S' := ⟨[(0, .sl false 8 cs), (2, .sl false 1 qs), (9, .pt 1 0 0), (10, i64 m'), (11, i64 (Ω.int i)), (12, i64 nx)], 85, [none, some ⟨5, [.agg [.sl true 2 (E l'), i64 v1, i64 v2, i64 (-1), boo false]], true⟩]⟩) rfl rfl rfl rfl
          (Sbs.trans (Sbs.foldCell (r := 1) (j := 0) (q := 0) (r2 := 0) rfl rfl rfl rfl (Nat.le_of_eq (hEl _)) (by show (E l').take (Ω.len (E l')) = E l'; rw [hEl, List.take_length]) rfl rfl rfl) (Sbs.trans (Sbs.cut 2 rfl) (Sbs.mk rfl rfl ⟨rfl, rfl, rfl, rfl, rfl, rfl, rfl, rfl, rfl, trivial⟩))) ?_
        refine call_mut hΩ 4 (l := [(1, [.agg [.sl true 2 (E l1), i64 v1, i64 v2, i64 (-1), boo false]])] ++ ([] ++ ([] ++ []))) hp1 (.cons (mutPt rfl rfl rfl) (.cons (.data rfl rfl) (.cons (.data rfl rfl) .nil))) (by simp) rfl ?_
        refine ⟨.tup [], ⟨[(0, .sl false 8 cs), (2, .sl false 1 qs), (9, .pt 1 0 0), (10, i64 m'), (11, i64 (Ω.int i)), (12, i64 nx)], 85, [some ⟨2, E l1, false⟩, some ⟨5, [.agg [.vw 0 0 (Ω.len (E l1)), i64 v1, i64 v2, i64 (-1), boo false]], true⟩]⟩, rfl, rfl,
          Sbs.trans (Sbs.ownCell (r := 1) (j := 0) (q := 0) (n := 2) (ys := E l1) rfl rfl rfl rfl rfl) (Sbs.trans (Sbs.mv (a := 2) (b := 0) rfl rfl (Nat.succ_pos 2)) (Sbs.trans (Sbs.cut 2 rfl) (Sbs.mk rfl (by show [some (Row.mk 2 (E l1) false), some (Row.mk 5 [A.agg [.vw 0 0 (E l1).length, i64 v1, i64 v2, i64 (-1), boo false]] true)] = _; rw [← hEl]; rfl) ⟨rfl, rfl, rfl, rfl, rfl, rfl, rfl, trivial⟩))), ?_⟩
        cbv
        refine call_pure hΩ 4 ht1 (mapO1 (roPt rfl (mapO5 (ro_vw rfl (hEl _) (hEz _)) rfl rfl rfl rfl))) (fits _) rfl rfl ?_
        cbv
        refine call_pure hΩ 4 hx1 rfl (fits _) rfl rfl ?_
        cbv
        refine call_pure hΩ 4 hdc rfl (fits _) rfl rfl ?_
        cbv
        refine ⟨ib, ⟨hib, Nat.le_trans f2d (by decide)⟩, ?_⟩
        cbv
        refine call_sub 1000 (args' := [.pt 1 0 0, str [99, 117, 114], .sl false 1 ib]) (S' := ⟨[(0, .sl false 8 cs), (2, .sl false 1 qs), (9, .pt 1 0 0), (10, i64 m1), (11, i64 (Ω.int i)), (12, i64 nx)], 85, [none, some ⟨5, [.agg [.sl true 2 (E l1), i64 v1, i64 v2, i64 (-1), boo false]], true⟩]⟩) rfl rfl rfl rfl
          (Sbs.trans (Sbs.foldCell (r := 1) (j := 0) (q := 0) (r2 := 0) rfl rfl rfl rfl (Nat.le_of_eq (hEl _)) (by show (E l1).take (Ω.len (E l1)) = E l1; rw [hEl, List.take_length]) rfl rfl rfl) (Sbs.trans (Sbs.cut 2 rfl) (Sbs.mk rfl rfl ⟨rfl, rfl, rfl, rfl, rfl, rfl, rfl, rfl, rfl, trivial⟩))) ?_
        refine call_mut hΩ 4 (l := [(1, [.agg [.sl true 2 (E l2), i64 v1, i64 v2, i64 (-1), boo false]])] ++ ([] ++ ([] ++ []))) hp2 (.cons (mutPt rfl rfl rfl) (.cons (.data rfl rfl) (.cons (.data rfl rfl) .nil))) (by simp) rfl ?_
        refine ⟨.tup [], ⟨[(0, .sl false 8 cs), (2, .sl false 1 qs), (9, .pt 1 0 0), (10, i64 m1), (11, i64 (Ω.int i)), (12, i64 nx)], 85, [some ⟨2, E l2, false⟩, some ⟨5, [.agg [.vw 0 0 (Ω.len (E l2)), i64 v1, i64 v2, i64 (-1), boo false]], true⟩]⟩, rfl, rfl,
          Sbs.trans (Sbs.ownCell (r := 1) (j := 0) (q := 0) (n := 2) (ys := E l2) rfl rfl rfl rfl rfl) (Sbs.trans (Sbs.mv (a := 2) (b := 0) rfl rfl (Nat.succ_pos 2)) (Sbs.trans (Sbs.cut 2 rfl) (Sbs.mk rfl (by show [some (Row.mk 2 (E l2) false), some (Row.mk 5 [A.agg [.vw 0 0 (E l2).length, i64 v1, i64 v2, i64 (-1), boo false]] true)] = _; rw [← hEl]; rfl) ⟨rfl, rfl, rfl, rfl, rfl, rfl, rfl, trivial⟩))), ?_⟩
        cbv
        refine call_pure hΩ 4 ht2 (mapO1 (roPt rfl (mapO5 (ro_vw rfl (hEl _) (hEz _)) rfl rfl rfl rfl))) (fits _) rfl rfl ?_
        cbv
        refine call_pure hΩ 4 hx2 rfl (fits _) rfl rfl ?_
        cbv
        have a2 : l2 = layF l w := a2
        have b2 : m2 = mstF l m w := b2
        exact ⟨(i + 1, l2, m2), ⟨by dsimp only; omega, hm2.mono (by dsimp only; omega), by dsimp only; rw [a2, b2, ← hpd]; exact hp⟩, by dsimp only; omega, Sbs.mk rfl rfl ⟨rfl, rfl, rfl, rfl, incI hΩ (by omega), trivial⟩⟩
  · replace h := geI hΩ h
    obtain rfl : i = ss.length := by omega
    refine call_pure hΩ 4 hto1 (mapO1 (roPt rfl (mapO5 (ro_vw rfl (hEl _) (hEz _)) rfl rfl rfl rfl))) (fits _) rfl rfl ?_
    cbv
    rw [List.drop_length, hpn] at hp
    rw [← hp]
    exact .same
end Go.Proofs.YtljjcffnomdhhaaGreatDoor

/- Walks: PeakOf, both. Plain theorems. -/
set_option linter.unusedVariables false
set_option linter.unusedSimpArgs false
namespace Go.Proofs.YtljjcffnomdhhaaGreatDoor
open Go Go.Fw
set_option maxRecDepth 100000
theorem pkK_bad {c : List Pck} {x : Dsk} {ss : List (List Int)} (h : bthC c x ≠ 0) : pkK c x ss = (bthC c x, 0, 0) := by unfold pkK; rw [if_pos h]
theorem pkK_ok {c : List Pck} {x : Dsk} {ss : List (List Int)} (h : bthC c x = 0) : pkK c x ss = ((pkI c x ss).2.2, (pkI c x ss).1, (pkI c x ss).2.1) := by
  unfold pkK pkI
  rw [if_neg (by simpa using h)]
  split
  · rfl
  · split <;> rfl
/-- The answer in cells. -/
def pkA (r : Int × Int × Int) : A := .agg [i64 r.1, i64 r.2.1, i64 r.2.2]
theorem c_specPeakOf (c : List Pck) (x : Dsk) (ss : List (List Int)) (hl : c.length ≤ 1048576) (ho : ∀ o ∈ c, o.Small) (hx : x.Fit) (hs : ss.length ≤ 1048576) (hsl : ∀ s ∈ ss, s.length ≤ 1048576) :
    PCtr PP n_spec_PeakOf [encP c, x.enc false false, encSS ss] (pkA (pkK c x ss)) := by
  obtain ⟨Ω, hΩ⟩ : ∃ Ω, Ω = std := ⟨_, rfl⟩
  have hb := c_l8Asked c x hl ho hx
  have hset := fun s (h : s ∈ ss) => c_l3Set c s hl (hsl s h)
  have hpk := fun h h40 hok => c_l14Peak c x ss hl (bthC_ok hx h).1 (bthC_ok hx h).2 h40 hok
  have h1 := fun h => pkK_bad (c := c) (x := x) (ss := ss) h
  have h2 := fun h => pkK_ok (c := c) (x := x) (ss := ss) h
  unfold pkI at h2
  have hsf : bthC c x = 0 → ∀ s, setF c s = if setOk ((c.length : Int) - 1) s 0 s then 0 else 1 := fun h s => by
    unfold setF; rw [if_neg (by simpa using (bthC_ok hx h).1)]
  have hff : ∀ i s, ss[i]? = some s → firstF (setF c) (ss.drop i) = if setF c s ≠ 0 then setF c s else firstF (setF c) (ss.drop (i + 1)) := fun i s h => firstF_at _ h
  have hfn : firstF (setF c) (ss.drop ss.length) = 0 := by rw [List.drop_length]; rfl
  have hf0 : firstF (setF c) (ss.drop 0) = firstF (setF c) ss := by rw [List.drop_zero]
  have hok : firstF (setF c) ss = 0 → ∀ s ∈ ss, Told c s := fun h s hs => setF_told (firstF_zero.1 h s hs)
  generalize firstF (setF c) ss = e0 at *
  generalize pkK c x ss = R at *
  generalize pkS c x.f (totL x.f) ss = Q at *
  generalize bthC c x = b at *
  obtain ⟨qs, hqs⟩ : ∃ qs, qs = ss.map fun s => A.sl false 1 (s.map i64) := ⟨_, rfl⟩
  have hql : qs.length = ss.length := by rw [hqs, List.length_map]
  unfold encSS pkA at *
  rw [← hqs] at hpk ⊢
  unfold encP Dsk.enc Dsk.see at *
  generalize c.map (Pck.enc false) = cs at *
  generalize x.f.map (Fil.enc false) = xs at *
  generalize x.bg = v1 at *
  generalize x.wr = v2 at *
  generalize x.st = v3 at *
  generalize x.dn = v4 at *
  have htab := tab
  refine PCtr.walk tab hΩ fn_spec_PeakOf rfl ?_
  generalize PP = P at *
  cbv
  refine call_pure hΩ 4 hb rfl (fits _) rfl rfl ?_
  cbv
  refine br (fun h => ?_) (fun h => ?_) <;> cbv
  · have h : b ≠ 0 := neZt hΩ h
    rw [h1 h]
    exact .same
  · have h : b = 0 := neZf hΩ h
    have h2 := h2 h
    have hsf := hsf h
    have hpk := hpk h
    refine br (fun h' => ?_) (fun h' => ?_) <;> cbv
    · have h40 : 40 < ss.length := by
        subst hΩ
        have h' : (40 : Int) < ((qs.length : Nat) : Int) := gt_t h'
        omega
      rw [if_pos h40] at h2
      rw [h2]
      exact .same
    · have h40 : ¬ 40 < ss.length := by
        subst hΩ
        have h' : ((qs.length : Nat) : Int) ≤ (40 : Int) := gt_f h'
        omega
      rw [if_neg h40] at h2
      have hpk := hpk (by omega)
      refine loopX htab hΩ (fun i : Nat => ⟨[(0, .sl false 8 cs), (2, .sl false 1 qs), (4, .pt 0 0 0), (6, .pt 1 0 0), (8, i64 (Ω.int i))], 48,
        [some ⟨5, [.agg [.sl false 2 xs, i64 v1, i64 v2, i64 v3, boo v4]], true⟩, some ⟨3, [.agg [i64 0, i64 0, i64 0]], true⟩]⟩) (fun i => i ≤ ss.length ∧ firstF (setF c) (ss.drop i) = e0) (fun i => ss.length - i) 0 ⟨Nat.zero_le _, hf0⟩
        (Sbs.mk rfl rfl ⟨rfl, rfl, rfl, rfl, zeroI hΩ, trivial⟩) (fun i hi => ?_)
      obtain ⟨hi, hie⟩ := hi
      cbv
      refine br (fun h => ?_) (fun h => ?_) <;> cbv
      · replace h := ltI hΩ h
        obtain ⟨s, hsi⟩ := at_of (cs := ss) (by omega : i < ss.length)
        have hst := hset s (List.mem_of_getElem? hsi)
        have hf := hff i s hsi
        have hsf := hsf s
        generalize setF c s = g at *
        generalize setOk ((c.length : Int) - 1) s 0 s = o at *
        refine ⟨⟨nnI hΩ⟩, _, rdI hΩ hqs hsi, ?_⟩
        generalize s.map i64 = sa at *
        cbv
        refine call_pure hΩ 4 hst rfl (fits _) rfl rfl ?_
        cbv
        refine br (fun h => ?_) (fun h => ?_) <;> cbv
        · have h : o = false := notA hΩ h
          rw [h] at hsf
          have hg : g = 1 := by simpa using hsf
          have he : e0 = 1 := by rw [← hie, hf, hg]; simp
          rw [he] at h2
          rw [h2]
          exact .same
        · have h : o = true := notB hΩ h
          rw [h] at hsf
          have hg : g = 0 := by simpa using hsf
          exact ⟨i + 1, ⟨by omega, by rw [← hie, hf, if_neg (by simpa using hg)]⟩, by omega, Sbs.mk rfl rfl ⟨rfl, rfl, rfl, rfl, incI hΩ (by omega), trivial⟩⟩
      · replace h := geI hΩ h
        obtain rfl : i = ss.length := by omega
        have he0 : e0 = 0 := by rw [← hie, hfn]
        rw [if_neg (by simpa using he0)] at h2
        refine call_pure hΩ 4 (hpk (hok he0)) (mapO3 rfl (roPt rfl rfl) rfl) (fits _) rfl rfl ?_
        cbv
        rw [h2]
        exact .same
end Go.Proofs.YtljjcffnomdhhaaGreatDoor

/- Walks: sizes, copies, equals of sets. Plain theorems. -/
set_option linter.unusedVariables false
set_option linter.unusedSimpArgs false
namespace Go.Proofs.YtljjcffnomdhhaaGreatDoor
open Go Go.Fw
set_option maxRecDepth 100000
def szI (s : List Int) (l : Int) : Int := szN s.length l
def cI (s : List Int) : Nat := s.length
theorem szI_cost : Costs szI cI := fun _ _ => rfl
/-- A set in cells; o: held alone. -/
def encI (o : Bool) (s : List Int) : A := .sl o 1 (s.map i64)
theorem frz_encI (l : List (List Int)) : (l.map (encI true)).map frz = l.map (encI false) := by
  rw [List.map_map]
  refine List.map_congr_left fun s _ => ?_
  show frz (.sl true 1 (s.map i64)) = _
  rw [frz_sl, List.map_map]
  rfl
theorem roFI (s : List Int) : roFree (encI true s) = true := roFAll fun x hx => by obtain ⟨c, _, rfl⟩ := List.mem_map.1 hx; rfl
theorem roFIs (l : List (List Int)) : roFree (.sl true 1 (l.map (encI true))) = true := roFAll fun x hx => by obtain ⟨c, _, rfl⟩ := List.mem_map.1 hx; exact roFI c
theorem c_szInt64S (d : List Int) (l : Int) (h0 : 0 ≤ l) (h1 : l ≤ 1048576) (hm : d.length ≤ maxLen) : PCtr PP n_laws_szInt64S [.sl false 1 (d.map i64), i64 l] (i64 (szI d l)) := by
  obtain ⟨Ω, hΩ⟩ : ∃ Ω, Ω = std := ⟨_, rfl⟩
  obtain ⟨r, hr⟩ : ∃ r, r = szI d l := ⟨_, rfl⟩
  rw [← hr]
  unfold szI szN at hr
  have hw := szN_w h0 h1 hm
  obtain ⟨xs, hxs⟩ : ∃ xs, xs = d.map i64 := ⟨_, rfl⟩
  have hlen : xs.length = d.length := by rw [hxs, List.length_map]
  rw [← hxs]
  have hs : Ω.ar .sub .i64 l (Ω.int (Ω.len xs)) = l - d.length := by subst hΩ; rw [← hw]; show IntKind.i64.wrap (l - (xs.length : Int)) = _; rw [hlen]
  generalize (l - d.length : Int) = m at *
  have htab := tab
  refine PCtr.walk tab hΩ fn_laws_szInt64S rfl ?_
  generalize PP = P at *
  cbv
  refine br (fun h => ?_) (fun h => ?_) <;> cbv
  · have h := ltI_t hΩ h
    have h : m < 0 := by rw [← hs]; exact h
    exact .of (congrArg i64 (by rw [hr, if_pos h]))
  · have h := ltI_f hΩ h
    have h : 0 ≤ m := by rw [← hs]; exact h
    exact .of (congrArg i64 (by rw [hr, if_neg (by omega)]; exact hs))
theorem c_szInt64SS (cs : List (List Int)) (l : Int) (h0 : 0 ≤ l) (h1 : l ≤ 1048576) (hm : cs.length ≤ maxLen) (hc : ∀ c ∈ cs, c.length ≤ maxLen) : PCtr PP n_laws_szInt64SS [.sl false 1 (cs.map (encI false)), i64 l] (i64 (szS szI cs l)) := by
  obtain ⟨Ω, hΩ⟩ : ∃ Ω, Ω = std := ⟨_, rfl⟩
  obtain ⟨r, hr⟩ : ∃ r, r = szS szI cs l := ⟨_, rfl⟩
  obtain ⟨xs, hxs⟩ : ∃ xs, xs = cs.map (encI false) := ⟨_, rfl⟩
  have hlen : xs.length = cs.length := by rw [hxs, List.length_map]
  rw [← hxs, ← hr]
  have hel : ∀ c ∈ cs, ∀ y, 0 ≤ y → y ≤ 1048576 → PCtr PP n_laws_szInt64S [.sl false 1 (c.map i64), i64 y] (i64 (szI c y)) := fun c h y a b => c_szInt64S c y a b (hc c h)
  have hle : ∀ c y, 0 ≤ szI c y → szI c y ≤ y := fun c y h => by
    have h2 := szI_cost c y
    rw [h2] at h ⊢
    split at h
    · omega
    · rename_i h3; rw [if_neg h3]; omega
  have htab := tab
  refine PCtr.walk tab hΩ fn_laws_szInt64SS rfl ?_
  generalize PP = P at *
  cbv
  refine br (fun h => ?_) (fun h => ?_)
  · replace h : r = -1 := by
      subst hΩ
      have h : IntKind.i64.wrap (l - xs.length) < 0 := lt_t h
      rw [hlen, szw h0 h1 hm] at h
      rw [hr, szS, if_pos h]
    cbv
    exact .of (congrArg i64 h.symm)
  obtain ⟨l', hl', h, hr⟩ : ∃ l', IntKind.i64.wrap (l - xs.length) = l' ∧ (0 ≤ l' ∧ l' ≤ 1048576) ∧ r = szLoop szI cs l' := by
    subst hΩ
    have h : 0 ≤ IntKind.i64.wrap (l - xs.length) := lt_f h
    rw [hlen, szw h0 h1 hm] at h ⊢
    exact ⟨_, rfl, ⟨h, by omega⟩, by rw [hr, szS, if_neg (by omega)]⟩
  cbv
  refine loopX htab hΩ (fun i : Nat × Int => ⟨[(0, .sl false 1 xs), (1, .sc (.int .i64 i.2)), (5, .sc (.int .i64 (Ω.int i.1)))], 27, []⟩) (fun i => i.1 ≤ cs.length ∧ (0 ≤ i.2 ∧ i.2 ≤ 1048576) ∧ r = szLoop szI (cs.drop i.1) i.2)
    (fun i => cs.length - i.1) (0, l') ⟨Nat.zero_le _, h, hr⟩ (Sbs.mk rfl rfl ⟨rfl, by subst hΩ; exact congrArg i64 hl', zeroI hΩ, trivial⟩) ?_
  rintro ⟨i, y⟩ ⟨hi, hy, he⟩
  dsimp only at hi hy he
  cbv
  refine br (fun h => ?_) (fun h => ?_)
  · replace h := ltI hΩ h
    obtain ⟨c, hcc⟩ := at_of (cs := cs) (by omega : i < cs.length)
    have hcm := List.mem_of_getElem? hcc
    rw [szLoop_at _ hcc] at he
    cbv
    have hcc' := hel c hcm y hy.1 hy.2
    obtain ⟨ts, hen2, hts⟩ : ∃ ts, encI false c = .sl false 1 ts ∧ ts = c.map i64 := ⟨_, rfl, rfl⟩
    rw [← hts] at hcc'
    refine ⟨⟨nnI hΩ⟩, _, (rdI hΩ hxs hcc).trans (congrArg some hen2), ?_⟩
    cbv
    have hley := hle c y
    generalize szI c y = y' at he hcc' hley
    refine call_pure hΩ 3 hcc' rfl (fits _) rfl rfl ?_
    cbv
    refine br (fun h => ?_) (fun h => ?_) <;> cbv
    · exact .of (congrArg i64 (by rw [he, if_pos (ltI_t hΩ h)]))
    · have h := ltI_f hΩ h
      exact ⟨(i + 1, y'), ⟨by dsimp only; omega, ⟨h, by have := hley h; dsimp only; omega⟩, by rw [he, if_neg (by omega)]⟩, by dsimp only; omega, Sbs.mk rfl rfl ⟨rfl, rfl, incI hΩ (by simp only [maxLen] at hm; omega), trivial⟩⟩
  · replace h := geI hΩ h
    cbv
    exact .of (congrArg i64 (by rw [he, List.drop_of_length_le (by omega)]; rfl))
theorem c_toInt64SS (cs : List (List Int)) (hb : cs.length ≤ 1048576) (hl : ∀ l ∈ cs, l.length ≤ 1048576) : PCtr PP n_laws_toInt64SS [.sl false 1 (cs.map (encI false))] (.sl true 1 (cs.map (encI true))) := by
  obtain ⟨Ω, hΩ⟩ : ∃ Ω, Ω = std := ⟨_, rfl⟩
  obtain ⟨xs, hxs⟩ : ∃ xs, xs = cs.map (encI false) := ⟨_, rfl⟩
  obtain ⟨zs, hzs⟩ : ∃ zs, zs = cs.map (encI true) := ⟨_, rfl⟩
  obtain ⟨n, hn⟩ : ∃ n, n = cs.length := ⟨_, rfl⟩
  have hlen : xs.length = n := by rw [hxs, hn, List.length_map]
  obtain ⟨ys, hys⟩ : ∃ ys : Nat → List A, ys = fill (encI true) (.nil) cs := ⟨_, rfl⟩
  have hyl : ∀ i, i ≤ n → (ys i).length = n := fun i hi => by rw [hys, hn]; exact fill_length (by omega)
  have hya : ∀ i, ∀ z ∈ ys i, vStore.isAggA z = false := fun i => by rw [hys]; exact fill_all (fun _ => rfl) rfl
  have hy0 : List.replicate n (.nil) = ys 0 := by rw [hys, fill_zero, hn]
  have hyn : ys n = zs := by rw [hys, hn, fill_full, hzs]
  have hyset : ∀ i c, cs[i]? = some c → (ys i).set i ((encI true) c) = ys (i + 1) := fun i c h => by rw [hys]; exact fill_set h
  clear hys
  rw [← hxs, ← hzs]
  have hcl : ∀ c ∈ cs, PCtr PP n_laws_toInt64S [.sl false 1 (c.map i64)] (.sl true 1 (c.map i64)) := fun c h => c_toInt64S c (hl c h)
  refine PCtr.walk tab hΩ fn_laws_toInt64SS rfl ?_
  have htab := tab
  have hmo := hmo
  generalize PP = P at *
  cbv
  refine ⟨⟨by subst hΩ; show _ ∧ (0 : Int) ≤ xs.length ∧ 24 * ((xs.length : Int).toNat) ≤ _ ∧ (xs.length : Int).toNat ≤ 9223372036854775807; rw [hlen]; refine ⟨rfl, ?_, ?_, ?_⟩ <;> omega⟩,
    loopX htab hΩ (fun i : Nat => ⟨[(0, .sl false 1 xs), (3, .vw 0 0 n), (4, .sc (.int .i64 (Ω.int i)))], 23, [some ⟨1, ys i, false⟩]⟩) (fun i => i ≤ n) (fun i => n - i) 0 (Nat.zero_le _) (Sbs.mk rfl ?_ ?_) (fun i hi => ?_)⟩
  · rw [← hy0]; subst hΩ; subst hlen; rfl
  · subst hΩ; subst hlen; exact ⟨rfl, rfl, rfl, trivial⟩
  have hyli := hyl i hi
  have hyai := hya i
  cbv
  refine br (fun h => ?_) (fun h => ?_)
  · replace h : i < n := by have := ltI hΩ h; omega
    obtain ⟨c, hcc⟩ := at_of (cs := cs) (by omega : i < cs.length)
    have hset := hyset i c hcc
    cbv
    obtain ⟨ts, hen, hts⟩ : ∃ ts, encI false c = .sl false 1 ts ∧ ts = c.map i64 := ⟨_, rfl, rfl⟩
    have hcc' := hcl c (List.mem_of_getElem? hcc)
    have hrf := roFI c
    rw [show encI true c = .sl true 1 ts by rw [hts]; rfl] at hrf hset
    rw [← hts] at hcc'
    refine ⟨⟨nnI hΩ⟩, _, (rdI hΩ hxs hcc).trans (congrArg some hen), ?_⟩
    cbv
    refine call_pure hΩ 3 hcc' rfl (fits _) hrf rfl ?_
    cbv
    refine ⟨⟨ixI hΩ h⟩, ⟨rfl, by subst hΩ; exact Nat.le_refl _⟩, ⟨by subst hΩ; show 0 + i < _; rw [hyli]; omega, hyai⟩, i + 1, by omega, by omega, Sbs.trans (Sbs.lastN (rows := [_]) rfl)
      (Sbs.mk rfl (by rw [← hset]; subst hΩ; show [some (Row.mk 1 ((ys i).set (0 + i) (A.sl true 1 (ts.take ts.length))) false)] = _; rw [List.take_length, Nat.zero_add]) ⟨rfl, rfl, incI hΩ (by omega), trivial⟩)⟩
  · replace h : i = n := by have := geI hΩ h; omega
    subst h
    cbv
    refine ⟨⟨rfl, by show i ≤ (ys i).length; omega⟩, .of ?_⟩
    rw [← hyn]
    subst hΩ
    show A.sl true 1 ((ys i).take i) = _
    rw [List.take_of_length_le (by omega)]
theorem c_eqInt64SS (cs : List (List Int)) (hb : cs.length ≤ 1048576) (hl : ∀ l ∈ cs, l.length ≤ 1048576) : PCtr PP n_laws_eqInt64SS [.sl false 1 (cs.map (encI false)), .sl false 1 (cs.map (encI false))] (boo true) := by
  obtain ⟨Ω, hΩ⟩ : ∃ Ω, Ω = std := ⟨_, rfl⟩
  obtain ⟨xs, hxs⟩ : ∃ xs, xs = cs.map (encI false) := ⟨_, rfl⟩
  have hlen : xs.length = cs.length := by rw [hxs, List.length_map]
  rw [← hxs]
  have hc : ∀ c ∈ cs, PCtr PP n_laws_eqInt64S [.sl false 1 (c.map i64), .sl false 1 (c.map i64)] (boo true) := fun c h => c_eqInt64S c (hl c h)
  have htab := tab
  have hmo := hmo
  refine PCtr.walk tab hΩ fn_laws_eqInt64SS rfl ?_
  generalize PP = P at *
  cbv
  refine br (fun h => (ne_self hΩ h).elim) (fun h => ?_)
  cbv
  refine loopX htab hΩ (fun i : Nat => ⟨[(0, .sl false 1 xs), (1, .sl false 1 xs), (5, .sc (.int .i64 (Ω.int i)))], 27, []⟩) (fun i => i ≤ cs.length) (fun i => cs.length - i) 0 (Nat.zero_le _) (Sbs.mk rfl rfl ⟨rfl, rfl, zeroI hΩ, trivial⟩) (fun i hi => ?_)
  cbv
  refine br (fun h => ?_) (fun h => ?_)
  · replace h := ltI hΩ h
    obtain ⟨c, hcc⟩ := at_of (cs := cs) (by omega : i < _)
    have hcm := List.mem_of_getElem? hcc
    obtain ⟨ts, hen2, hts⟩ : ∃ ts, encI false c = .sl false 1 ts ∧ ts = c.map i64 := ⟨_, rfl, rfl⟩
    have hcc1 := hc c hcm
    rw [← hts] at hcc1
    cbv
    repeat' (first | (refine br (fun h => (notT hΩ h).elim) (fun h => ?_); cbv) | (refine br (fun h => (ne_self hΩ h).elim) (fun h => ?_); cbv) | (refine br (fun h => (sne_self hΩ h).elim) (fun h => ?_); cbv) | (refine ⟨VC_drawn htab hΩ hmo (by kernel_rfl) ?_⟩; cbv) | (refine ⟨⟨nnI hΩ⟩, _, (rdI hΩ hxs hcc).trans (congrArg some hen2), ?_⟩; cbv) | (refine call_pure hΩ 3 hcc1 rfl (fits _) rfl rfl ?_; cbv) | (refine QCall_pure (k := 3) hcc1 rfl (fits _) rfl ?_; cbv))
    exact ⟨i + 1, by omega, by omega, Sbs.mk rfl rfl ⟨rfl, rfl, incI hΩ (by omega), trivial⟩⟩
  · cbv
    exact .same
theorem sz_sets {ss : List (List Int)} {l : Int} (hl : l ≤ 1048576) (h : 0 ≤ szS szI ss l) : ss.length ≤ 1048576 ∧ (∀ s ∈ ss, s.length ≤ 1048576) := by
  rw [szS_cost szI_cost] at h
  split at h
  · omega
  · have h1 := len_cost cI ss
    have h2 := mem_cost cI ss
    exact ⟨by omega, fun s hs => by have : s.length ≤ costS cI ss := h2 s hs; omega⟩
theorem szS_le {α : Type} {f : α → Int → Int} {g : α → Nat} (hf : Costs f g) {cs : List α} {l : Int} (h : 0 ≤ szS f cs l) : szS f cs l ≤ l := by
  rw [szS_cost hf] at h ⊢
  split at h
  · omega
  · rename_i h1; rw [if_neg h1]; omega
end Go.Proofs.YtljjcffnomdhhaaGreatDoor

/- Walks: the text of a plan, both. Plain theorems. -/
set_option linter.unusedVariables false
set_option linter.unusedSimpArgs false
namespace Go.Proofs.YtljjcffnomdhhaaGreatDoor
open Go Go.Fw
set_option maxRecDepth 100000
def planP : List UInt8 := [112, 108, 97, 110]
def rooW : List UInt8 := [114, 111, 111, 116, 32]
def steW : List UInt8 := [115, 116, 101, 112, 10]
/-- The text of a plan. -/
def planA (a : List Trm) : List UInt8 := (a.map fun t => rooW ++ trmT t ++ [10]).flatten
def planS (c : List Pck) (ss : List (List Int)) : List UInt8 := (ss.map fun s => steW ++ setT c s).flatten
def planT (c : List Pck) (a : List Trm) (ss : List (List Int)) : List UInt8 := planA a ++ planS c ss
theorem planA_at {a : List Trm} {i : Nat} {t : Trm} (h : a[i]? = some t) : planA (a.take (i + 1)) = planA (a.take i) ++ (rooW ++ trmT t ++ [10]) := by
  unfold planA
  rw [List.take_add_one, h]
  simp
theorem planS_at {c : List Pck} {ss : List (List Int)} {i : Nat} {s : List Int} (h : ss[i]? = some s) : planS c (ss.take (i + 1)) = planS c (ss.take i) ++ (steW ++ setT c s) := by
  unfold planS
  rw [List.take_add_one, h]
  simp
theorem planA_len : ∀ {a : List Trm}, (∀ t ∈ a, trmF t = 0) → (planA a).length ≤ 46 * a.length
  | [], _ => Nat.zero_le _
  | t :: a, h => by
    have h1 := trmT_len (h t (.head _))
    have h2 := planA_len (a := a) fun t ht => h t (.tail _ ht)
    unfold planA at h2 ⊢
    simp [rooW] at h2 ⊢
    omega
theorem planS_len {c : List Pck} (hc : catF c = 0) : ∀ {ss : List (List Int)}, (∀ s ∈ ss, Told c s) → (planS c ss).length ≤ 605 * ss.length
  | [], _ => Nat.zero_le _
  | s :: ss, h => by
    have h0 := h s (.head _)
    have h1 := setT_len hc s h0.2
    have h3 := h0.len
    have h4 := (cat_ok hc).1
    have h2 := planS_len hc (ss := ss) fun t ht => h t (.tail _ ht)
    unfold planS at h2 ⊢
    simp [steW] at h2 ⊢
    omega
/-- How the text grows. -/
theorem plan_facts (c : List Pck) (a : List Trm) (ss : List (List Int)) (hc : catF c = 0) (ha : ∀ t ∈ a, trmF t = 0) (hal : a.length ≤ 1048576) (hs : ∀ s ∈ ss, Told c s) (hsl : ss.length ≤ 1048576) : ∃ (G H : Nat → List UInt8), ([] = G 0 ∧ G a.length = H 0 ∧ planT c a ss = H ss.length) ∧
    (∀ i t, a[i]? = some t → (G i).length ≤ 50000000 ∧ (fmtT t).length ≤ 40 ∧ fmtT t = trmT t ∧ G (i + 1) = G i ++ (rooW ++ trmT t ++ [10])) ∧ (∀ i s, ss[i]? = some s → Told c s ∧ (H i).length ≤ 700000000 ∧ (setT c s).length ≤ 600 ∧ H (i + 1) = H i ++ (steW ++ setT c s)) := by
  refine ⟨fun i => planA (a.take i), fun i => planA a ++ planS c (ss.take i), ⟨rfl, by dsimp only; rw [List.take_length]; simp [planS], by dsimp only; rw [List.take_length]; rfl⟩, fun i t h => ?_, fun i s h => ?_⟩
  · have hm := ha t (List.mem_of_getElem? h)
    have h1 := planA_len (a := a.take i) fun t ht => ha t (List.mem_of_mem_take ht)
    have h2 : (a.take i).length ≤ a.length := by rw [List.length_take]; omega
    have e : fmtT t = trmT t := by unfold fmtT; rw [if_pos hm]
    exact ⟨by dsimp only; omega, by rw [e]; exact trmT_len hm, e, planA_at h⟩
  · have hm := hs s (List.mem_of_getElem? h)
    have h0 := planA_len ha
    have h1 := planS_len hc (ss := ss.take i) fun t ht => hs t (List.mem_of_mem_take ht)
    have h2 : (ss.take i).length ≤ ss.length := by rw [List.length_take]; omega
    have h3 := setT_len hc s hm.2
    have h4 := hm.len
    have h5 := (cat_ok hc).1
    exact ⟨hm, by dsimp only; rw [List.length_append]; omega, by omega, by dsimp only; rw [planS_at h, List.append_assoc]⟩
theorem c_planText (c : List Pck) (a : List Trm) (ss : List (List Int)) (hc : catF c = 0) (ha : ∀ t ∈ a, trmF t = 0) (hal : a.length ≤ 1048576) (hs : ∀ s ∈ ss, Told c s) (hsl : ss.length ≤ 1048576) :
    PCtr PP n_impl_planText [encP c, .sl false 7 (a.map Trm.enc), encSS ss] (str (planT c a ss)) := by
  obtain ⟨Ω, hΩ⟩ : ∃ Ω, Ω = std := ⟨_, rfl⟩
  obtain ⟨G, H, ⟨hG0, hGH, hH⟩, hGs, hHs⟩ := plan_facts c a ss hc ha hal hs hsl
  rw [hH]
  have hft := c_FormatTerm
  have hst := fun s h => c_setText c s hc h
  obtain ⟨ts, hts⟩ : ∃ ts, ts = a.map Trm.enc := ⟨_, rfl⟩
  have htl : ts.length = a.length := by rw [hts, List.length_map]
  obtain ⟨qs, hqs⟩ : ∃ qs, qs = ss.map fun s => A.sl false 1 (s.map i64) := ⟨_, rfl⟩
  have hql : qs.length = ss.length := by rw [hqs, List.length_map]
  unfold encSS
  rw [← hts, ← hqs]
  unfold encP at *
  generalize c.map (Pck.enc false) = cs at *
  generalize fmtT = F at *
  generalize trmT = X at *
  unfold rooW steW at *
  generalize setT = ST at *
  have htab := tab
  have hmo := hmo
  refine PCtr.walk tab hΩ fn_impl_planText rfl ?_
  generalize PP = P at *
  cbv
  refine loopX htab hΩ (fun i : Nat => ⟨[(0, .sl false 8 cs), (2, .sl false 1 qs), (7, str (G i)), (12, .sl false 7 ts), (13, i64 (Ω.int (Ω.len ts))), (14, i64 (Ω.int i))], 39, []⟩) (fun i => i ≤ a.length) (fun i => a.length - i) 0
    (Nat.zero_le _) (Sbs.mk rfl rfl ⟨rfl, rfl, congrArg str hG0, rfl, rfl, zeroI hΩ, trivial⟩) ?_
  intro i hi
  cbv
  refine br (fun h => ?_) (fun h => ?_) <;> cbv
  · replace h := ltI hΩ h
    obtain ⟨t, htt⟩ := at_of (cs := a) (by omega : i < a.length)
    obtain ⟨g1, g2, g3, g4⟩ := hGs i t htt
    have hft := hft t
    rw [g3] at g2 hft
    generalize X t = x at *
    refine ⟨⟨nnI hΩ⟩, _, rdI hΩ hts htt, ?_⟩
    cbv
    refine call_pure hΩ 3 hft rfl (fits _) rfl rfl ?_
    cbv
    refine ⟨⟨obC (by simp; omega)⟩, ⟨obC (by repeat rw [catL hΩ]
                                             simp; omega)⟩, ⟨obC (by repeat rw [catL hΩ]
                                                                     simp; omega)⟩, i + 1, by omega, by omega, (Sbs.cut 0 rfl).trans (Sbs.mk rfl rfl ⟨rfl, rfl, congrArg str ?_, rfl, rfl, incI hΩ (by omega), trivial⟩)⟩
    rw [g4]
    subst hΩ
    rfl
  · replace h := geI hΩ h
    obtain rfl : i = a.length := by omega
    refine loopX htab hΩ (fun i : Nat => ⟨[(0, .sl false 8 cs), (7, str (H i)), (25, .sl false 1 qs), (26, i64 (Ω.int (Ω.len qs))), (27, i64 (Ω.int i))], 39, []⟩) (fun i => i ≤ ss.length) (fun i => ss.length - i) 0
      (Nat.zero_le _) (Sbs.mk rfl rfl ⟨rfl, congrArg str hGH, rfl, rfl, zeroI hΩ, trivial⟩) ?_
    intro i hi
    cbv
    refine br (fun h => ?_) (fun h => ?_) <;> cbv
    · replace h := ltI hΩ h
      obtain ⟨s, hss⟩ := at_of (cs := ss) (by omega : i < ss.length)
      obtain ⟨hk, g1, g2, g4⟩ := hHs i s hss
      have hst := hst s hk
      generalize ST c s = x at *
      refine ⟨⟨nnI hΩ⟩, _, rdI hΩ hqs hss, ?_⟩
      generalize s.map i64 = sa at *
      cbv
      refine call_pure hΩ 3 hst rfl (fits _) rfl rfl ?_
      cbv
      refine ⟨⟨obC (by simp; omega)⟩, ⟨obC (by rw [catL hΩ]; simp; omega)⟩, i + 1, by omega, by omega, Sbs.mk rfl rfl ⟨rfl, congrArg str ?_, rfl, rfl, incI hΩ (by omega), trivial⟩⟩
      rw [g4]
      subst hΩ
      rfl
    · replace h := geI hΩ h
      obtain rfl : i = ss.length := by omega
      exact .same
theorem c_l9Text (c : List Pck) (a : List Trm) (ss : List (List Int)) (hc : catF c = 0) (ha : ∀ t ∈ a, trmF t = 0) (hal : a.length ≤ 1048576) (hs : ∀ s ∈ ss, Told c s) (hsl : ss.length ≤ 1048576) :
    PCtr PP n_spec_l9Text [encP c, .sl false 7 (a.map Trm.enc), encSS ss] (str (planT c a ss)) := by
  obtain ⟨Ω, hΩ⟩ : ∃ Ω, Ω = std := ⟨_, rfl⟩
  obtain ⟨G, H, ⟨hG0, hGH, hH⟩, hGs, hHs⟩ := plan_facts c a ss hc ha hal hs hsl
  rw [hH]
  have hft := c_specFormatTerm
  have hst := fun s h => c_l3Text c s hc h
  obtain ⟨ts, hts⟩ : ∃ ts, ts = a.map Trm.enc := ⟨_, rfl⟩
  have htl : ts.length = a.length := by rw [hts, List.length_map]
  obtain ⟨qs, hqs⟩ : ∃ qs, qs = ss.map fun s => A.sl false 1 (s.map i64) := ⟨_, rfl⟩
  have hql : qs.length = ss.length := by rw [hqs, List.length_map]
  unfold encSS
  rw [← hts, ← hqs]
  unfold encP at *
  generalize c.map (Pck.enc false) = cs at *
  generalize fmtT = F at *
  generalize trmT = X at *
  unfold rooW steW at *
  generalize setT = ST at *
  have htab := tab
  have hmo := hmo
  refine PCtr.walk tab hΩ fn_spec_l9Text rfl ?_
  generalize PP = P at *
  cbv
  refine loopX htab hΩ (fun i : Nat => ⟨[(0, .sl false 8 cs), (1, .sl false 7 ts), (2, .sl false 1 qs), (7, str (G i)), (8, i64 (Ω.int i))], 41, []⟩) (fun i => i ≤ a.length) (fun i => a.length - i) 0
    (Nat.zero_le _) (Sbs.mk rfl rfl ⟨rfl, rfl, rfl, congrArg str hG0, zeroI hΩ, trivial⟩) ?_
  intro i hi
  cbv
  refine br (fun h => ?_) (fun h => ?_) <;> cbv
  · replace h := ltI hΩ h
    obtain ⟨t, htt⟩ := at_of (cs := a) (by omega : i < a.length)
    obtain ⟨g1, g2, g3, g4⟩ := hGs i t htt
    have hft := hft t
    rw [g3] at g2 hft
    generalize X t = x at *
    refine ⟨⟨obC (by simp; omega)⟩, ⟨nnI hΩ⟩, _, rdI hΩ hts htt, ?_⟩
    cbv
    refine call_pure hΩ 3 hft rfl (fits _) rfl rfl ?_
    cbv
    refine ⟨⟨obC (by repeat rw [catL hΩ]
                     simp; omega)⟩, ⟨obC (by repeat rw [catL hΩ]
                                             simp; omega)⟩, i + 1, by omega, by omega, Sbs.mk rfl rfl ⟨rfl, rfl, rfl, congrArg str ?_, incI hΩ (by omega), trivial⟩⟩
    rw [g4]
    subst hΩ
    show ((G i ++ [114, 111, 111, 116, 32]) ++ x) ++ [10] = G i ++ ([114, 111, 111, 116, 32] ++ x ++ [10])
    simp
  · replace h := geI hΩ h
    obtain rfl : i = a.length := by omega
    refine loopX htab hΩ (fun i : Nat => ⟨[(0, .sl false 8 cs), (2, .sl false 1 qs), (7, str (H i)), (9, i64 (Ω.int i))], 41, []⟩) (fun i => i ≤ ss.length) (fun i => ss.length - i) 0
      (Nat.zero_le _) (Sbs.mk rfl rfl ⟨rfl, rfl, congrArg str hGH, zeroI hΩ, trivial⟩) ?_
    intro i hi
    cbv
    refine br (fun h => ?_) (fun h => ?_) <;> cbv
    · replace h := ltI hΩ h
      obtain ⟨s, hss⟩ := at_of (cs := ss) (by omega : i < ss.length)
      obtain ⟨hk, g1, g2, g4⟩ := hHs i s hss
      have hst := hst s hk
      generalize ST c s = x at *
      have hrd := rdI (f := fun s => A.sl false 1 (s.map i64)) hΩ hqs hss
      generalize s.map i64 = sa at *
      refine ⟨⟨obC (by simp; omega)⟩, ⟨nnI hΩ⟩, _, hrd, ?_⟩
      cbv
      refine call_pure hΩ 3 hst rfl (fits _) rfl rfl ?_
      cbv
      refine ⟨⟨obC (by repeat rw [catL hΩ]
                       simp; omega)⟩, i + 1, by omega, by omega, Sbs.mk rfl rfl ⟨rfl, rfl, congrArg str ?_, incI hΩ (by omega), trivial⟩⟩
      rw [g4]
      subst hΩ
      exact List.append_assoc _ _ _
    · replace h := geI hΩ h
      obtain rfl : i = ss.length := by omega
      exact .same
theorem c_hasPlan (x : Dsk) (hx : x.f.length ≤ 1048576) (ho : ordF x.f) : PCtr PP n_impl_Disk_hasPlan [x.see] (boo (hasF x.f planP)) := by
  obtain ⟨Ω, hΩ⟩ : ∃ Ω, Ω = std := ⟨_, rfl⟩
  have hd := c_data x planP hx ho
  unfold planP Dsk.see Dsk.enc at *
  generalize (datF x.f [112, 108, 97, 110]).map byteA = db at *
  generalize hasF x.f [112, 108, 97, 110] = b at *
  generalize x.f.map (Fil.enc false) = xs at *
  generalize x.bg = v1 at *
  generalize x.wr = v2 at *
  generalize x.st = v3 at *
  generalize x.dn = v4 at *
  have htab := tab
  refine PCtr.walk tab hΩ fn_impl_Disk_hasPlan rfl ?_
  generalize PP = P at *
  cbv
  refine call_share hΩ 4 hd rfl (fits _) rfl ?_
  cbv
  exact .same
end Go.Proofs.YtljjcffnomdhhaaGreatDoor

/- Walks: FitsPlan, both. Plain theorems. -/
set_option linter.unusedVariables false
set_option linter.unusedSimpArgs false
namespace Go.Proofs.YtljjcffnomdhhaaGreatDoor
open Go Go.Fw
set_option maxRecDepth 100000
/-- Is there room for a plan. -/
def fitB (c : List Pck) (x : Dsk) (a : List Trm) (ss : List (List Int)) : Bool :=
  decide ((pkK c x ss).1 = 0) && (decide (firstF trmF a = 0) && (!hasF x.f planP && decide (IntKind.i64.wrap ((pkK c x ss).2.1 + ((planT c a ss).length : Int)) ≤ x.bg)))
theorem pk_told {c : List Pck} {x : Dsk} {ss : List (List Int)} (hx : x.Fit) (h : (pkK c x ss).1 = 0) : bthC c x = 0 ∧ catF c = 0 ∧ x.Ok ∧ ss.length ≤ 40 ∧ ∀ s ∈ ss, Told c s := by
  have hb : bthC c x = 0 := Decidable.byContradiction fun g => by rw [pkK_bad g] at h; exact g h
  obtain ⟨h1, h2⟩ := bthC_ok hx hb
  rw [pkK_ok hb] at h
  unfold pkI at h
  split at h
  · cases h
  · rename_i h40
    split at h
    · rename_i g; exact absurd h g
    · rename_i g
      exact ⟨hb, h1, h2, by omega, fun s hs => setF_told (firstF_zero.1 (by simpa using g) s hs)⟩
theorem c_implFitsPlan (c : List Pck) (x : Dsk) (a : List Trm) (ss : List (List Int)) (hl : c.length ≤ 1048576) (ho : ∀ o ∈ c, o.Small) (hx : x.Fit) (ha : a.length ≤ 1048576) (hs : ss.length ≤ 1048576) (hsl : ∀ s ∈ ss, s.length ≤ 1048576) :
    PCtr PP n_impl_FitsPlan [encP c, x.enc false false, .sl false 7 (a.map Trm.enc), encSS ss] (boo (fitB c x a ss)) := by
  obtain ⟨Ω, hΩ⟩ : ∃ Ω, Ω = std := ⟨_, rfl⟩
  have hb := c_bothCode c x hl ho hx
  have hhp := fun (h : bthC c x = 0) => c_hasPlan x hx.n (bthC_ok hx h).2.o
  have htf := c_termsFault a (by omega)
  have hpk := fun (h : bthC c x = 0) => c_peak c x ss hl ho (bthC_ok hx h).1 (bthC_ok hx h).2 hs hsl
  have hk1 := fun h => pkK_bad (c := c) (x := x) (ss := ss) h
  have hk2 := fun h => pkK_ok (c := c) (x := x) (ss := ss) h
  have hpt := fun (h : (pkK c x ss).1 = 0) (h2 : firstF trmF a = 0) => c_planText c a ss (pk_told hx h).2.1 (firstF_zero.1 h2) ha (pk_told hx h).2.2.2.2 hs
  obtain ⟨R, hR⟩ : ∃ R, R = fitB c x a ss := ⟨_, rfl⟩
  rw [← hR]
  unfold fitB at hR
  have hsum : ∀ p : Int, Ω.ar .add .i64 p (Ω.int (Ω.lenS (planT c a ss))) = IntKind.i64.wrap (p + ((planT c a ss).length : Int)) := fun p => by subst hΩ; rfl
  obtain ⟨sm, hsm⟩ : ∃ sm : Int → Int, ∀ p, sm p = IntKind.i64.wrap (p + ((planT c a ss).length : Int)) := ⟨_, fun _ => rfl⟩
  simp only [← hsm] at hsum hR
  clear hsm
  have r1 : bthC c x ≠ 0 → R = false := fun h => by rw [hR, hk1 h]; simp [h]
  have r2 : hasF x.f planP = true → R = false := fun h => by rw [hR, h]; simp
  have r3 : firstF trmF a ≠ 0 → R = false := fun h => by rw [hR]; simp [h]
  have r4 : bthC c x = 0 → (pkI c x ss).2.2 ≠ 0 → R = false := fun h h2 => by rw [hR, hk2 h]; simp [h2]
  have r5 : bthC c x = 0 → (pkI c x ss).2.2 = 0 → firstF trmF a = 0 → hasF x.f planP = false → R = decide (sm (pkI c x ss).1 ≤ x.bg) := fun h h2 h3 h4 => by rw [hR, hk2 h]; simp [h2, h3, h4]
  have hpt : bthC c x = 0 → (pkI c x ss).2.2 = 0 → firstF trmF a = 0 → _ := fun h h2 h3 => hpt (by rw [hk2 h]; exact h2) h3
  clear hR hk1 hk2
  generalize planT c a ss = pt at *
  generalize pkK c x ss = K at *
  generalize pkI c x ss = Q at *
  generalize bthC c x = b at *
  generalize firstF trmF a = f at *
  generalize hasF x.f planP = hp at *
  unfold encSS at *
  unfold encP Dsk.enc Dsk.see at *
  generalize ss.map (fun s => A.sl false 1 (s.map i64)) = qs at *
  generalize a.map Trm.enc = ts at *
  generalize c.map (Pck.enc false) = cs at *
  generalize x.f.map (Fil.enc false) = xs at *
  generalize x.bg = v1 at *
  generalize x.wr = v2 at *
  generalize x.st = v3 at *
  generalize x.dn = v4 at *
  have htab := tab
  have hmo := hmo
  refine PCtr.walk tab hΩ fn_impl_FitsPlan rfl ?_
  generalize PP = P at *
  cbv
  refine call_pure hΩ 4 hb rfl (fits _) rfl rfl ?_
  cbv
  repeat' (first
    | (refine br (fun hh => ?_) (fun hh => ?_) <;> (repeat' (first | replace hh := iteA hΩ hh | replace hh := iteB hΩ hh)) <;> (first | replace hh := neZt hΩ hh | replace hh := neZf hΩ hh | replace hh := eqZt hΩ hh | replace hh := eqZf hΩ hh | replace hh := ltZt hΩ hh | replace hh := ltZf hΩ hh | replace hh := geZt hΩ hh | replace hh := geZf hΩ hh | replace hh := gtZt hΩ hh | replace hh := gtZf hΩ hh | replace hh := leZt hΩ hh | replace hh := leZf hΩ hh | replace hh := notA hΩ hh | replace hh := notB hΩ hh | skip) <;> (first | (exfalso; (first | omega | (cases hh; done) | (simp_all; done))) | cbv))
    | (refine call_pure hΩ 4 (hhp (by omega)) (mapO1 (roPt rfl rfl)) (fits _) rfl rfl ?_; cbv)
    | (refine call_pure hΩ 4 htf rfl (fits _) rfl rfl ?_; cbv)
    | (refine call_pure hΩ 4 (hpk (by omega)) rfl (fits _) rfl rfl ?_; cbv))
  all_goals first
    | exact .of (congrArg boo (r1 (by omega)).symm)
    | exact .of (congrArg boo (r3 (by omega)).symm)
    | exact .of (congrArg boo (r2 (by assumption)).symm)
    | (refine ⟨VC.sub (VC_pl htab hΩ hmo (.qs [0, 1, 2, 3, 4, 5, 6, 10, 11] (.s 7 (.s 8 (.s 9 (.q 12 (.s 13 (.q 14 .fin))))))) (by kernel_rfl) ?_) ((Sbs.unlk (r := 0) rfl rfl).trans (Sbs.thaw0 (r := 0) rfl rfl rfl))⟩; cbv)
  repeat' (first
    | (refine br (fun hh => ?_) (fun hh => ?_) <;> (repeat' (first | replace hh := iteA hΩ hh | replace hh := iteB hΩ hh)) <;> (first | replace hh := neZt hΩ hh | replace hh := neZf hΩ hh | replace hh := eqZt hΩ hh | replace hh := eqZf hΩ hh | replace hh := ltZt hΩ hh | replace hh := ltZf hΩ hh | replace hh := geZt hΩ hh | replace hh := geZf hΩ hh | replace hh := gtZt hΩ hh | replace hh := gtZf hΩ hh | replace hh := leZt hΩ hh | replace hh := leZf hΩ hh | replace hh := notA hΩ hh | replace hh := notB hΩ hh | skip) <;> (first | (exfalso; (first | omega | (cases hh; done) | (simp_all; done))) | cbv))
    | (refine call_pure hΩ 4 (hpt (by omega) (by assumption) (by omega)) rfl (fits _) rfl rfl ?_; cbv))
  · refine .of (congrArg boo ?_)
    rw [r5 (by omega) (by assumption) (by omega) (by assumption), ← hsum]
    subst hΩ
    rfl
  · exact .of (congrArg boo (r4 (by omega) (by assumption)).symm)
theorem c_specFitsPlan (c : List Pck) (x : Dsk) (a : List Trm) (ss : List (List Int)) (hl : c.length ≤ 1048576) (ho : ∀ o ∈ c, o.Small) (hx : x.Fit) (ha : a.length ≤ 1048576) (hs : ss.length ≤ 1048576) (hsl : ∀ s ∈ ss, s.length ≤ 1048576) :
    PCtr PP n_spec_FitsPlan [encP c, x.enc false false, .sl false 7 (a.map Trm.enc), encSS ss] (boo (fitB c x a ss)) := by
  obtain ⟨Ω, hΩ⟩ : ∃ Ω, Ω = std := ⟨_, rfl⟩
  have hpo := c_specPeakOf c x ss hl ho hx hs hsl
  have hfd := c_l7Find x planP hx.n
  have htf := c_l2Terms a (by omega)
  have hfn := fun (h : (pkK c x ss).1 = 0) => fnd_of (pk_told hx h).2.2.1.o planP
  have hpt := fun (h : (pkK c x ss).1 = 0) (h2 : firstF trmF a = 0) => c_l9Text c a ss (pk_told hx h).2.1 (firstF_zero.1 h2) ha (pk_told hx h).2.2.2.2 hs
  obtain ⟨R, hR⟩ : ∃ R, R = fitB c x a ss := ⟨_, rfl⟩
  rw [← hR]
  unfold fitB at hR
  have hsum : ∀ p : Int, Ω.ar .add .i64 p (Ω.int (Ω.lenS (planT c a ss))) = IntKind.i64.wrap (p + ((planT c a ss).length : Int)) := fun p => by subst hΩ; rfl
  obtain ⟨sm, hsm⟩ : ∃ sm : Int → Int, ∀ p, sm p = IntKind.i64.wrap (p + ((planT c a ss).length : Int)) := ⟨_, fun _ => rfl⟩
  simp only [← hsm] at hsum hR
  clear hsm
  have r1 : (pkK c x ss).1 ≠ 0 → R = false := fun h => by rw [hR]; simp [h]
  have r2 : (pkK c x ss).1 = 0 → 0 ≤ fndF x.f planP → R = false := fun h h2 => by
    cases hh : hasF x.f planP with
    | true => rw [hR, hh]; simp
    | false => have := ((hfn h).1 hh).1; omega
  have r3 : firstF trmF a ≠ 0 → R = false := fun h => by rw [hR]; simp [h]
  have r5 : (pkK c x ss).1 = 0 → firstF trmF a = 0 → fndF x.f planP < 0 → R = decide (sm (pkK c x ss).2.1 ≤ x.bg) := fun h h3 h4 => by
    cases hh : hasF x.f planP with
    | true => have := ((hfn h).2 hh).1; omega
    | false => rw [hR, hh]; simp [h, h3]
  clear hR hfn
  generalize planT c a ss = pt at *
  generalize pkK c x ss = K at *
  generalize firstF trmF a = f at *
  generalize fndF x.f planP = z at *
  unfold encSS pkA at *
  unfold encP Dsk.enc Dsk.see planP at *
  generalize ss.map (fun s => A.sl false 1 (s.map i64)) = qs at *
  generalize a.map Trm.enc = ts at *
  generalize c.map (Pck.enc false) = cs at *
  generalize x.f.map (Fil.enc false) = xs at *
  generalize x.bg = v1 at *
  generalize x.wr = v2 at *
  generalize x.st = v3 at *
  generalize x.dn = v4 at *
  have htab := tab
  have hmo := hmo
  refine PCtr.walk tab hΩ fn_spec_FitsPlan rfl ?_
  generalize PP = P at *
  cbv
  refine call_pure hΩ 4 hpo rfl (fits _) rfl rfl ?_
  cbv
  repeat' (first
    | (refine br (fun hh => ?_) (fun hh => ?_) <;> (repeat' (first | replace hh := iteA hΩ hh | replace hh := iteB hΩ hh)) <;> (first | replace hh := neZt hΩ hh | replace hh := neZf hΩ hh | replace hh := eqZt hΩ hh | replace hh := eqZf hΩ hh | replace hh := ltZt hΩ hh | replace hh := ltZf hΩ hh | replace hh := geZt hΩ hh | replace hh := geZf hΩ hh | replace hh := gtZt hΩ hh | replace hh := gtZf hΩ hh | replace hh := leZt hΩ hh | replace hh := leZf hΩ hh | replace hh := notA hΩ hh | replace hh := notB hΩ hh | skip) <;> (first | (exfalso; (first | omega | (cases hh; done) | (simp_all; done))) | cbv))
    | (refine call_pure hΩ 4 hfd (mapO2 (roPt rfl rfl) rfl) (fits _) rfl rfl ?_; cbv)
    | (refine call_pure hΩ 4 htf rfl (fits _) rfl rfl ?_; cbv))
  all_goals first
    | exact .of (congrArg boo (r1 (by assumption)).symm)
    | exact .of (congrArg boo (r3 (by omega)).symm)
    | exact .of (congrArg boo (r2 (by assumption) (by omega)).symm)
    | (refine ⟨VC.sub (VC_pl htab hΩ hmo (.qs [0, 1, 2, 3, 4, 8, 9] (.s 5 (.s 6 (.s 7 (.qs [10, 11] .fin))))) (by kernel_rfl) ?_) (((Sbs.unlk (r := 0) rfl rfl).trans (Sbs.thaw0 (r := 0) rfl rfl rfl)).trans ((Sbs.unlk (r := 1) rfl rfl).trans (Sbs.thaw0 (r := 1) rfl rfl rfl)))⟩; cbv)
  refine call_pure hΩ 4 (hpt (by assumption) (by omega)) rfl (fits _) rfl rfl ?_
  cbv
  refine .of (congrArg boo ?_)
  rw [r5 (by assumption) (by omega) (by omega), ← hsum]
  subst hΩ
  rfl
end Go.Proofs.YtljjcffnomdhhaaGreatDoor

/- The law of FitsPlan, walked. Plain theorems. -/
set_option linter.unusedVariables false
set_option linter.unusedSimpArgs false
namespace Go.Proofs.YtljjcffnomdhhaaGreatDoor
open Go Go.Fw
set_option maxRecDepth 100000
theorem frz_TrmsE (l : List Trm) : (l.map Trm.enc).map frz = l.map Trm.enc := by rw [List.map_map]; exact List.map_congr_left fun _ _ => rfl
theorem c_lawFitsPlan (cs : List Pck) (x : Dsk) (aa : List Trm) (ss : List (List Int)) (hm : cs.length ≤ maxLen) (hf : ∀ o ∈ cs, o.Fit) (hxm : x.f.length ≤ maxLen) (hxf : ∀ f ∈ x.f, f.Fit) (ham : aa.length ≤ maxLen) (haf : ∀ t ∈ aa, t.n.length ≤ maxLen) (hsm : ss.length ≤ maxLen) (hsf : ∀ s ∈ ss, s.length ≤ maxLen) : PCtr PP n_laws_FnExactFitsPlan [.sl false 8 (cs.map (Pck.enc false)), x.enc false false, .sl false 7 (aa.map Trm.enc), .sl false 1 (ss.map (encI false))] (boo true) := by
  obtain ⟨Ω, hΩ⟩ : ∃ Ω, Ω = std := ⟨_, rfl⟩
  obtain ⟨xs, hxs⟩ : ∃ xs, xs = cs.map (Pck.enc false) := ⟨_, rfl⟩
  obtain ⟨os, hos⟩ : ∃ os, os = cs.map (Pck.enc true) := ⟨_, rfl⟩
  obtain ⟨fs, hfs⟩ : ∃ fs, fs = x.f.map (Fil.enc false) := ⟨_, rfl⟩
  obtain ⟨gs, hgs⟩ : ∃ gs, gs = x.f.map (Fil.enc true) := ⟨_, rfl⟩
  obtain ⟨qs, hqs⟩ : ∃ qs, qs = ss.map (encI false) := ⟨_, rfl⟩
  obtain ⟨ts, hts⟩ : ∃ ts, ts = ss.map (encI true) := ⟨_, rfl⟩
  obtain ⟨ps, hps⟩ : ∃ ps, ps = aa.map Trm.enc := ⟨_, rfl⟩
  have hpf : ps.map frz = ps := by rw [hps]; exact frz_TrmsE aa
  have rp : roFree (.sl true 7 ps) = true := by rw [hps]; exact roFTs aa
  have hof : os.map frz = xs := by rw [hos, hxs]; exact frz_Pcks cs
  have hgf : gs.map frz = fs := by rw [hgs, hfs]; exact frz_Fils x.f
  have htf : ts.map frz = qs := by rw [hts, hqs]; exact frz_encI ss
  have ro : roFree (.sl true 8 os) = true := by rw [hos]; exact roFPs cs
  have rd : roFree (x.enc true true) = true := roFD x
  have rt : roFree (.sl true 1 ts) = true := by rw [hts]; exact roFIs ss
  have h1 := c_szPackS cs 1048576 (by omega) (by omega) hm hf
  obtain ⟨l, hl, hl2, hl3⟩ : ∃ l, szS szP cs 1048576 = l ∧ (0 ≤ l → cs.length ≤ 1048576 ∧ (∀ o ∈ cs, o.Small) ∧ psum Pck.cnt cs cs.length ≤ 12582912) ∧ (0 ≤ l → l ≤ 1048576) := ⟨_, rfl, sz_facts, fun h => szP_le _ h⟩
  obtain ⟨l2, hd1, hd2, hd3⟩ : ∃ l2, (0 ≤ l → PCtr PP n_laws_szDisk [x.enc false false, i64 l] (i64 l2)) ∧ (0 ≤ l → 0 ≤ l2 → x.Fit) ∧ (0 ≤ l → 0 ≤ l2 → l2 ≤ 1048576) := ⟨_, fun h0 => c_szDisk x l h0 (hl3 h0) hxm hxf, fun h0 h2 => szD_facts rfl (hl3 h0) h2, fun h0 h2 => by have := szS_le szF_cost (cs := x.f) (l := l) h2; have := hl3 h0; unfold szD; omega⟩
  obtain ⟨l4, hq1, hq2, hq3⟩ : ∃ l4, (0 ≤ l → 0 ≤ l2 → PCtr PP n_laws_szTermS [.sl false 7 (aa.map Trm.enc), i64 l2] (i64 l4)) ∧ (0 ≤ l → 0 ≤ l2 → 0 ≤ l4 → aa.length ≤ 1048576) ∧ (0 ≤ l → 0 ≤ l2 → 0 ≤ l4 → l4 ≤ 1048576) := ⟨_, fun h0 h2 => c_szTermS aa l2 h2 (hd3 h0 h2) ham haf, fun h0 h2 h4 => sz_facts2 (hd3 h0 h2) h4, fun h0 h2 h4 => by have := szS_le szT_cost (cs := aa) (l := l2) h4; have := hd3 h0 h2; omega⟩
  obtain ⟨l3, he1, he2⟩ : ∃ l3, (0 ≤ l → 0 ≤ l2 → 0 ≤ l4 → PCtr PP n_laws_szInt64SS [.sl false 1 (ss.map (encI false)), i64 l4] (i64 l3)) ∧ (0 ≤ l → 0 ≤ l2 → 0 ≤ l4 → 0 ≤ l3 → ss.length ≤ 1048576 ∧ ∀ s ∈ ss, s.length ≤ 1048576) := ⟨_, fun h0 h2 h4 => c_szInt64SS ss l4 h4 (hq3 h0 h2 h4) hsm hsf, fun h0 h2 h4 h3 => sz_sets (hq3 h0 h2 h4) h3⟩
  obtain ⟨rr, hrr⟩ : ∃ rr, rr = fitB cs x aa ss := ⟨_, rfl⟩
  have H : 0 ≤ l → 0 ≤ l2 → 0 ≤ l4 → 0 ≤ l3 → (PCtr PP n_laws_toPackS [.sl false 8 xs] (.sl true 8 os) ∧ PCtr PP n_laws_toDisk [x.enc false false] (x.enc true true) ∧ PCtr PP n_laws_toTermS [.sl false 7 ps] (.sl true 7 ps) ∧ PCtr PP n_laws_toInt64SS [.sl false 1 qs] (.sl true 1 ts)) ∧
      (PCtr PP n_spec_FitsPlan [.sl false 8 xs, x.enc false false, .sl false 7 ps, .sl false 1 qs] (boo rr) ∧ PCtr PP n_impl_FitsPlan [.sl false 8 xs, x.enc false false, .sl false 7 ps, .sl false 1 qs] (boo rr)) ∧
      (PCtr PP n_laws_eqPackS [.sl false 8 xs, .sl false 8 xs] (boo true) ∧ PCtr PP n_laws_eqDisk [x.enc false false, x.enc false false] (boo true) ∧ PCtr PP n_laws_eqTermS [.sl false 7 ps, .sl false 7 ps] (boo true) ∧ PCtr PP n_laws_eqInt64SS [.sl false 1 qs, .sl false 1 qs] (boo true)) := fun h h2 h4 h3 => by
    obtain ⟨k1, k2, k3⟩ := hl2 h
    have kx := hd2 h h2
    have ka := hq2 h h2 h4
    obtain ⟨ks, ks2⟩ := he2 h h2 h4 h3
    have a1 := c_toPackS cs k1 k2
    have a2 := c_toDisk x kx
    have b1 := c_toTermS aa ka
    have a8 := c_toInt64SS ss ks ks2
    have a3 : PCtr PP n_spec_FitsPlan [encP cs, x.enc false false, .sl false 7 (aa.map Trm.enc), .sl false 1 (ss.map (encI false))] _ := c_specFitsPlan cs x aa ss k1 k2 kx ka ks ks2
    have a4 : PCtr PP n_impl_FitsPlan [encP cs, x.enc false false, .sl false 7 (aa.map Trm.enc), .sl false 1 (ss.map (encI false))] _ := c_implFitsPlan cs x aa ss k1 k2 kx ka ks ks2
    have a6 := c_eqPackS cs k1 k2
    have a7 := c_eqDisk x kx
    have b2 := c_eqTermS aa ka
    have a9 := c_eqInt64SS ss ks ks2
    unfold encP at a3 a4
    rw [← hrr, ← hxs, ← hps, ← hqs] at a3 a4
    rw [← hxs] at a1 a6
    rw [← hos] at a1
    rw [← hps] at b1 b2
    rw [← hqs, ← hts] at a8
    rw [← hqs] at a9
    exact ⟨⟨a1, a2, b1, a8⟩, ⟨a3, a4⟩, a6, a7, b2, a9⟩
  rw [hl, ← hxs] at h1
  rw [← hxs, ← hps, ← hqs]
  rw [← hqs] at he1
  rw [← hps] at hq1
  unfold Dsk.enc at *
  rw [← hfs] at hd1 H ⊢
  rw [← hgs] at rd H
  clear hl2 hl3 hd2 hd3 he2 hq2 hq3 hps hxs hos hrr hfs hgs hl hqs hts
  generalize x.bg = v1 at *
  generalize x.wr = v2 at *
  generalize x.st = v3 at *
  generalize x.dn = v4 at *
  refine PCtr.walk tab hΩ fn_laws_FnExactFitsPlan rfl ?_
  have htab := tab
  have hmo := hmo
  generalize PP = P at *
  cbv
  refine call_pure hΩ 3 h1 rfl (fits _) rfl rfl ?_
  cbv
  refine br (fun h => ?_) (fun h => ?_)
  · cbv
    exact .same
  have hl0 := ltI_f hΩ h
  cbv
  refine call_pure hΩ 4 (hd1 hl0) rfl (fits _) rfl rfl ?_
  cbv
  refine br (fun h => ?_) (fun h => ?_)
  · cbv
    exact .same
  have hl1 := ltI_f hΩ h
  cbv
  refine call_pure hΩ 4 (hq1 hl0 hl1) rfl (fits _) rfl rfl ?_
  cbv
  refine br (fun h => ?_) (fun h => ?_)
  · cbv
    exact .same
  have hl4 := ltI_f hΩ h
  cbv
  refine call_pure hΩ 4 (he1 hl0 hl1 hl4) rfl (fits _) rfl rfl ?_
  cbv
  refine br (fun h => ?_) (fun h => ?_)
  · cbv
    exact .same
  obtain ⟨⟨a1, a2, b1, a8⟩, ⟨a3, a4⟩, a6, a7, b2, a9⟩ := H hl0 hl1 hl4 (ltI_f hΩ h)
  clear H
  have lo : Ω.len os = os.length := by subst hΩ; rfl
  have lg : Ω.len gs = gs.length := by subst hΩ; rfl
  have lt : Ω.len ts = ts.length := by subst hΩ; rfl
  have lp : Ω.len ps = ps.length := by subst hΩ; rfl
  have e3 : ∀ {S : State} {r q u p : Nat}, Fw.rowAt S.rows r = some ⟨8, os, false⟩ → Fw.rowAt S.rows q = some ⟨2, gs, false⟩ → Fw.rowAt S.rows u = some ⟨7, ps, false⟩ → Fw.rowAt S.rows p = some ⟨1, ts, false⟩ → mapO (roO S 5) [.vw r 0 (Ω.len os), .agg [.vw q 0 (Ω.len gs), i64 v1, i64 v2, i64 v3, boo v4], .vw u 0 (Ω.len ps), .vw p 0 (Ω.len ts)] = some [.sl false 8 xs, .agg [.sl false 2 fs, i64 v1, i64 v2, i64 v3, boo v4], .sl false 7 ps, .sl false 1 qs] := fun h1 h2 h3 h4 => mapO_cons (ro_vw h1 lo hof) (mapO3 (ro_agg5 (ro_vw h2 lg hgf) rfl rfl rfl rfl) (ro_vw h3 lp hpf) (ro_vw h4 lt htf))
  have e6 : ∀ {S : State} {r q : Nat}, Fw.rowAt S.rows r = some ⟨8, os, false⟩ → Fw.rowAt S.rows q = some ⟨8, os, false⟩ → mapO (roO S 5) [.vw r 0 (Ω.len os), .vw q 0 (Ω.len os)] = some [.sl false 8 xs, .sl false 8 xs] := fun h1 h2 => mapO2 (ro_vw h1 lo hof) (ro_vw h2 lo hof)
  have e7 : ∀ {S : State} {r q : Nat}, Fw.rowAt S.rows r = some ⟨2, gs, false⟩ → Fw.rowAt S.rows q = some ⟨2, gs, false⟩ → mapO (roO S 5) [.agg [.vw r 0 (Ω.len gs), i64 v1, i64 v2, i64 v3, boo v4], .agg [.vw q 0 (Ω.len gs), i64 v1, i64 v2, i64 v3, boo v4]] = some [.agg [.sl false 2 fs, i64 v1, i64 v2, i64 v3, boo v4], .agg [.sl false 2 fs, i64 v1, i64 v2, i64 v3, boo v4]] := fun h1 h2 => mapO2 (ro_agg5 (ro_vw h1 lg hgf) rfl rfl rfl rfl) (ro_agg5 (ro_vw h2 lg hgf) rfl rfl rfl rfl)
  have e9 : ∀ {S : State} {r q : Nat}, Fw.rowAt S.rows r = some ⟨7, ps, false⟩ → Fw.rowAt S.rows q = some ⟨7, ps, false⟩ → mapO (roO S 5) [.vw r 0 (Ω.len ps), .vw q 0 (Ω.len ps)] = some [.sl false 7 ps, .sl false 7 ps] := fun h1 h2 => mapO2 (ro_vw h1 lp hpf) (ro_vw h2 lp hpf)
  have e8 : ∀ {S : State} {r q : Nat}, Fw.rowAt S.rows r = some ⟨1, ts, false⟩ → Fw.rowAt S.rows q = some ⟨1, ts, false⟩ → mapO (roO S 5) [.vw r 0 (Ω.len ts), .vw q 0 (Ω.len ts)] = some [.sl false 1 qs, .sl false 1 qs] := fun h1 h2 => mapO2 (ro_vw h1 lt htf) (ro_vw h2 lt htf)
  cbv
  refine ⟨VC.sub (VC_pl htab hΩ hmo (.qs [0, 2, 4, 6] (.s 1 (.s 3 (.s 5 (.s 7 (.s 8 (.s 9 .fin))))))) (by kernel_rfl) ?_) ((Sbs.unlk (r := 0) rfl rfl).trans (Sbs.thaw0 (r := 0) rfl rfl rfl))⟩
  cbv
  repeat' (first
    | (refine call_pure hΩ 5 a1 rfl (fits _) ro rfl ?_; cbv)
    | (refine call_pure hΩ 5 a2 rfl (fits _) rd rfl ?_; cbv)
    | (refine call_pure hΩ 5 b1 rfl (fits _) rp rfl ?_; cbv)
    | (refine call_pure hΩ 5 a8 rfl (fits _) rt rfl ?_; cbv)
    | (refine call_pure hΩ 5 a3 (e3 rfl rfl rfl rfl) (fits _) rfl rfl ?_; cbv)
    | (refine call_pure hΩ 5 a4 (e3 rfl rfl rfl rfl) (fits _) rfl rfl ?_; cbv)
    | (refine call_pure hΩ 5 a6 (e6 rfl rfl) (fits _) rfl rfl ?_; cbv)
    | (refine call_pure hΩ 5 a7 (e7 rfl rfl) (fits _) rfl rfl ?_; cbv)
    | (refine call_pure hΩ 5 b2 (e9 rfl rfl) (fits _) rfl rfl ?_; cbv)
    | (refine call_pure hΩ 5 a9 (e8 rfl rfl) (fits _) rfl rfl ?_; cbv)
    | (refine br (fun h => (bne_self hΩ h).elim) (fun h => ?_); cbv)
    | (refine br (fun h => (notT hΩ h).elim) (fun h => ?_); cbv)
    | (refine ⟨VC_pl htab hΩ hmo (.q 1 (.two 0 (.s 2 (.s 3 (.s 4 .fin))) 2 (.s 0 (.s 3 (.s 4 .fin))))) (by kernel_rfl) ?_⟩; cbv)
    | exact FitX.same
    | (refine And.intro ?_ ?_))
end Go.Proofs.YtljjcffnomdhhaaGreatDoor

/- Walks: sets are read from their text, in the implementation. Plain theorems. -/
import Derived.Test.YtidlnilcdmhkiaaGreatDoorC5
import Derived.Shelf.SlicesG.CompactS
import Derived.Ground.SlgnProg
import Derived.Sort.OwnSorted
import Derived.Deep.Slices
import Derived.ChangeStays
import Derived.OpenShut
import Derived.WalkKit
import Derived.ProofKit
set_option linter.unusedVariables false
set_option linter.unusedSimpArgs false
namespace Go.Proofs.YtidlnilcdmhkiaaGreatDoor
open Go Go.Fw Go.Sort
set_option maxRecDepth 100000
/-- The place of the package that words tell; -1: none. -/
def rdP (c : List Pck) : List (List UInt8) → Int
  | [n, v] => if (verP v).1 = 0 then findF c n (verP v).2 else -1
  | _ => -1
theorem two_of {ws : List (List UInt8)} (h : ws.length = 2) : ∃ a b, ws = [a, b] := by
  match ws, h with
  | [a, b], _ => exact ⟨a, b, rfl⟩
theorem rdP_no {c : List Pck} {ws : List (List UInt8)} (h : ws.length ≠ 2) : rdP c ws = -1 := by
  match ws, h with
  | [], _ => rfl
  | [_], _ => rfl
  | [_, _], h => exact absurd rfl h
  | _ :: _ :: _ :: _, _ => rfl
theorem c_readPack (l : List Pck) (ws : List (List UInt8)) (hl : l.length ≤ 1048576) (hw : ws.length ≤ 1048576) (hs : ∀ w ∈ ws, w.length ≤ 1048575) : PCtr PP n_impl_readPack [encP l, .sl false 1 (ws.map str)] (i64 (rdP l ws)) := by
  obtain ⟨Ω, hΩ⟩ : ∃ Ω, Ω = std := ⟨_, rfl⟩
  have hv := fun s h => c_implParseVersion s h
  have hf := fun n v => c_find l n v hl
  have hno := @rdP_no l ws
  have hyes : ∀ a b, ws = [a, b] → rdP l ws = if (verP b).1 = 0 then findF l a (verP b).2 else -1 := fun a b h => by rw [h]; rfl
  have hat : ∀ a b, ws = [a, b] → (ws.map str)[0]? = some (str a) ∧ (ws.map str)[1]? = some (str b) ∧ a.length ≤ 1048575 ∧ b.length ≤ 1048575 := fun a b h => by
    refine ⟨by rw [h]; rfl, by rw [h]; rfl, hs a (by rw [h]; simp), hs b (by rw [h]; simp)⟩
  generalize rdP l ws = r at *
  obtain ⟨q, hq⟩ : ∃ q, q = ws.map str := ⟨_, rfl⟩
  have hql : Ω.int (Ω.len q) = (ws.length : Int) := by subst hΩ; show ((q.length : Nat) : Int) = _; rw [hq, List.length_map]
  have htwo : Ω.int (Ω.len q) = 2 → ∃ a b, ws = [a, b] := fun h => two_of (by rw [hql] at h; omega)
  have hne : Ω.int (Ω.len q) ≠ 2 → r = -1 := fun h => hno (fun h' => h (by rw [hql, h']; rfl))
  rw [← hq] at hat ⊢
  unfold encP at *
  generalize l.map (Pck.enc false) = xs at *
  unfold verA at hv
  have htab := tab
  have hmo := hmo
  clear hql hq hno
  refine PCtr.walk tab hΩ fn_impl_readPack rfl ?_
  generalize PP = P at *
  cbv
  refine br (fun h => ?_) (fun h => ?_) <;> cbv
  · exact .of (congrArg i64 (hne (neZt hΩ h)).symm)
  have h := neZf hΩ h
  obtain ⟨a, b, hab⟩ := htwo h
  obtain ⟨h0, h1, hal, hbl⟩ := hat a b hab
  have hyes := hyes a b hab
  have hv := hv b hbl
  generalize verP b = vp at *
  obtain ⟨k, va, vb, vc⟩ := vp
  dsimp only at *
  have hf := hf a ⟨va, vb, vc⟩
  generalize findF l a ⟨va, vb, vc⟩ = f at *
  clear hat htwo hne
  refine ⟨⟨by decide⟩, _, h1, ?_⟩
  cbv
  refine call_pure hΩ 4 hv rfl (fits _) rfl rfl ?_
  cbv
  refine br (fun h => ?_) (fun h => ?_) <;> cbv
  · have h := neZt hΩ h
    rw [if_neg h] at hyes
    exact .of (congrArg i64 hyes.symm)
  have h := neZf hΩ h
  rw [if_pos h] at hyes
  refine ⟨VC_drawn htab hΩ hmo (by kernel_rfl) ?_⟩
  cbv
  refine ⟨⟨by decide⟩, _, h0, ?_⟩
  cbv
  refine QCall_pure (k := 4) hf rfl (fits _) rfl ?_
  cbv
  exact .of (congrArg i64 hyes.symm)
/-- Lines read one behind the other: code, line, places. -/
def prsL (c : List Pck) : List (List UInt8) → Nat → List Int → Int × Int × List Int
  | [], _, o => (0, 0, o)
  | l :: ls, i, o => if rdP c (wordsP l) < 0 ∨ o.any (· == rdP c (wordsP l)) = true then (5, (i : Int), []) else prsL c ls (i + 1) (o ++ [rdP c (wordsP l)])
theorem prsL_at {c : List Pck} {ls : List (List UInt8)} {i : Nat} {l : List UInt8} {o : List Int} (h : ls[i]? = some l) : prsL c (ls.drop i) i o = if rdP c (wordsP l) < 0 ∨ o.any (· == rdP c (wordsP l)) = true then (5, (i : Int), []) else prsL c (ls.drop (i + 1)) (i + 1) (o ++ [rdP c (wordsP l)]) := by
  obtain ⟨h1, h2⟩ := List.getElem?_eq_some_iff.1 h
  rw [List.drop_eq_getElem_cons h1, h2, prsL]
/-- A set's text read: code, line, places in order. -/
def prsS (c : List Pck) (s : List UInt8) : Int × Int × List Int := if 4000 < s.length then (2, 0, []) else
  ((prsL c (linesP s) 0 []).1, (prsL c (linesP s) 0 []).2.1, sortZ (prsL c (linesP s) 0 []).2.2)
theorem fit_nilN (n : Nat) (k a : Int) : FitX (.agg [i64 k, i64 a, .nil]) (.agg [i64 k, i64 a, .sl true n []]) := ⟨2, by simp [fitA, fitA.fitL, i64]⟩
theorem sortZ_nil : sortZ [] = [] := by simp [sortZ]
theorem c_ParseSet (l : List Pck) (s : List UInt8) (hl : l.length ≤ 1048576) (ho : ∀ o ∈ l, o.Small) (hc : catF l = 0) (hs : s.length ≤ 1048576) : PCtr PP n_impl_ParseSet [encP l, str s] (setR (prsS l s).1 (prsS l s).2.1 (prsS l s).2.2) := by
  obtain ⟨Ω, hΩ⟩ : ∃ Ω, Ω = std := ⟨_, rfl⟩
  have hcf := c_implCatalogFault l hl ho
  rw [hc] at hcf
  obtain ⟨F, hF⟩ := grw hΩ i64
  obtain ⟨R, hR⟩ : ∃ R, R = setR (prsS l s).1 (prsS l s).2.1 (prsS l s).2.2 := ⟨_, rfl⟩
  rw [← hR]
  unfold prsS at hR
  have many : 4000 < s.length → R = .agg [i64 2, i64 0, .sl true 1 []] := fun h => by rw [hR, if_pos h]; rfl
  have go : ¬ 4000 < s.length → R = setR (prsL l (linesP s) 0 []).1 (prsL l (linesP s) 0 []).2.1 (sortZ (prsL l (linesP s) 0 []).2.2) := fun h => by rw [hR, if_neg h]
  clear hR
  have hln := linesP_len (s := s)
  have hmem := fun l => linesP_mem (s := s) (l := l)
  have hlc : s.length ≤ 4000 → PCtr PP n_impl_linesOf [str s] (.sl false 1 ((linesP s).map str)) := fun h => c_linesOf s (by omega)
  generalize linesP s = ls at *
  obtain ⟨n, hn⟩ : ∃ n, n = ls.length := ⟨_, rfl⟩
  obtain ⟨ys, hys⟩ : ∃ ys, ys = ls.map str := ⟨_, rfl⟩
  have hyl : ys.length = ls.length := by rw [hys, List.length_map]
  rw [← hys] at hlc
  have hw := c_wordsOf
  have hrd := fun ws h1 h2 => c_readPack l ws hl h1 h2
  have hch := fun (o : List Int) k (h : o.length ≤ 4001) => c_ContainsI o k (by omega)
  have hso := fun (o : List Int) (h : o.length ≤ 4001) => c_SortI o (by omega)
  have hzl : ∀ o : List Int, (F (sortZ o)).length = (F o).length := fun o => by rw [hF.len, hF.len]; exact List.length_mergeSort _
  have hFz : ∀ o : List Int, (F o).map frz = F o := fun o => by rw [← hF.eq, frz_I]
  simp only [hF.eq] at hch hso
  unfold encP at *
  generalize l.map (Pck.enc false) = xs at *
  have hpn : ∀ i o, prsL l [] i o = (0, 0, o) := fun _ _ => rfl
  have hpa := fun (i : Nat) w (o : List Int) (h : ls[i]? = some w) => prsL_at (c := l) (o := o) h
  generalize prsL l = pr at *
  generalize rdP l = rd at *
  have htab := tab
  refine PCtr.walk tab hΩ fn_impl_ParseSet rfl ?_
  generalize PP = P at *
  cbv
  refine call_pure hΩ 4 hcf rfl (fits _) rfl rfl ?_
  cbv
  refine br (fun h => absurd rfl (neZt hΩ h)) (fun _ => ?_)
  cbv
  refine br (fun h => ?_) (fun h => ?_) <;> cbv
  · have h : 4000 < s.length := by have h := gtZt hΩ h; subst hΩ; have h : (4000 : Int) < (s.length : Int) := h; omega
    rw [many h]
    exact fit_nilN 1 2 0
  have h4 : s.length ≤ 4000 := by have h := gtZf hΩ h; subst hΩ; have h : (s.length : Int) ≤ 4000 := h; omega
  have hRg := go (by omega)
  replace hlc := hlc h4
  clear go many
  refine call_share hΩ 3 hlc rfl (fits _) rfl ?_
  cbv
  refine loopX htab hΩ (fun i : Nat × List Int => ⟨[(0, .sl false 8 xs), (4, .pt 0 0 0), (6, .vw 1 0 (Ω.len (F i.2))), (22, .sl false 1 ys), (23, i64 (Ω.int (Ω.len ys))), (24, i64 (Ω.int i.1))], 51,
    [some ⟨3, [.agg [i64 0, i64 0, .nil]], true⟩, some ⟨1, F i.2, false⟩]⟩) (fun i => i.1 ≤ n ∧ i.2.length ≤ i.1 ∧ R = setR (pr (ls.drop i.1) i.1 i.2).1 (pr (ls.drop i.1) i.1 i.2).2.1 (sortZ (pr (ls.drop i.1) i.1 i.2).2.2)) (fun i => n - i.1) (0, []) ⟨Nat.zero_le _, Nat.le_refl _, hRg⟩
    (Sbs.mk rfl (by dsimp only; rw [hF.nil]; rfl) ⟨rfl, rfl, by dsimp only; rw [hF.z]; rfl, rfl, rfl, zeroI hΩ, trivial⟩) ?_
  rintro ⟨i, o⟩ ⟨hi, hol, hRi⟩
  dsimp only at hi hol hRi ⊢
  have hlf := hF.len o
  have hlo := hF.lo o
  have hle := hF.le o
  have htk := hF.tk o
  have hfz := hFz o
  have hso := hso o (by omega)
  have hzl := hzl o
  have hzk := hF.tk (sortZ o)
  have hze := hF.eq (sortZ o)
  have hzo := hF.lo (sortZ o)
  cbv
  refine br (fun h => ?_) (fun h => ?_) <;> cbv
  · replace h := ltI hΩ h
    obtain ⟨w, hw0⟩ := at_of (cs := ls) (by omega : i < _)
    rw [hpa i w o hw0] at hRi
    have hll := hmem w (List.mem_of_getElem? hw0)
    have hw1 := hw w (by omega)
    have hwl := words_len (s := w)
    have hr1 := hrd (wordsP w) (by omega) (fun v hv => by have := words_mem hv; omega)
    have rw1 : roFree (.sl true 1 ((wordsP w).map str)) = true := roF_S _
    have fw1 : frz (.sl true 1 ((wordsP w).map str)) = .sl false 1 ((wordsP w).map str) := by rw [frz_sl, frz_S]
    generalize wordsP w = wl at *
    have hch := hch o (rd wl) (by omega)
    have hap0 := hF.app o (rd wl)
    have hpl0 := hF.plus o (rd wl)
    generalize rd wl = k at *
    obtain ⟨B, hB⟩ : ∃ B, B = o.any (· == k) := ⟨_, rfl⟩
    have bad : k < 0 ∨ B = true → FitX (.agg [i64 5, i64 (Ω.int i), .nil]) R := fun e => by
      rw [hRi, if_pos (by rw [← hB]; exact e)]
      show FitX _ (.agg [i64 5, i64 (i : Int), .sl true 1 ((sortZ []).map i64)])
      rw [sortZ_nil]
      subst hΩ
      exact fit_nilN 1 5 i
    have good : ¬ k < 0 → B = false → R = setR (pr (ls.drop (i + 1)) (i + 1) (o ++ [k])).1 (pr (ls.drop (i + 1)) (i + 1) (o ++ [k])).2.1 (sortZ (pr (ls.drop (i + 1)) (i + 1) (o ++ [k])).2.2) := fun e1 e2 => by
      rw [if_neg (by rw [← hB, e2]; simp; omega)] at hRi
      exact hRi
    rw [← hB] at hch
    clear hRi hB
    generalize wl.map str = ws at *
    refine ⟨⟨nnI hΩ⟩, _, rdI hΩ hys hw0, ?_⟩
    cbv
    refine call_pf hΩ 3 hw1 rfl (fits _) rw1 fw1 rfl ?_
    cbv
    refine call_pure hΩ 3 hr1 rfl (fits _) rfl rfl ?_
    cbv
    refine br (fun g => ?_) (fun g => ?_) <;> cbv
    · exact bad (.inl (ltZt hΩ g))
    have g := ltZf hΩ g
    refine call_pure hΩ 3 hch (mapO2 (ro_vw rfl hlo hfz) rfl) (fits _) rfl rfl ?_
    cbv
    refine br (fun g' => ?_) (fun g' => ?_) <;> cbv
    · exact bad (.inr (iteB hΩ g'))
    have g' := iteB hΩ g'
    have good := good (by omega) g'
    exact ⟨⟨rfl, okAll rfl, by show (Ω.len (F o) + 1) * 8 ≤ 140737488355328; omega, by show Ω.len (F o) + 1 ≤ 9223372036854775807; omega⟩,
        (i + 1, o ++ [k]), ⟨by show i + 1 ≤ n; omega, by simp; omega, good⟩, by show n - (i + 1) < n - i; omega, (Sbs.cut 2 rfl).trans (Sbs.mk rfl (by show [some (Row.mk 3 [A.agg [i64 0, i64 0, .nil]] true), some (Row.mk 1 (Ω.app (Ω.take (Ω.len (F o)) (F o)) [i64 k]) false)] = _; rw [hap0]) ⟨rfl, rfl, congrArg (A.vw 1 0) hpl0, rfl, rfl, incI hΩ (by omega), trivial⟩)⟩
  · replace h := geI hΩ h
    have : i = n := by omega
    subst this
    rw [List.drop_of_length_le (by omega), hpn] at hRi
    have hRi : R = setR 0 0 (sortZ o) := hRi
    refine call_mut hΩ 3 (l := [(1, F (sortZ o))] ++ []) hso (.cons (mutVw rfl hlo hzl) .nil) (by simp) rfl ?_
    cbv
    exact ⟨⟨rfl, by show Ω.len (F o) ≤ (F (sortZ o)).length; omega⟩, .of (by rw [hRi]; show A.agg [i64 0, i64 0, .sl true 1 (Ω.take (Ω.len (F o)) (F (sortZ o)))] = A.agg [i64 0, i64 0, .sl true 1 ((sortZ o).map i64)]; rw [hlo, ← hzl, ← hzo, hzk, hze])⟩
end Go.Proofs.YtidlnilcdmhkiaaGreatDoor

/- Walks: draws of numbers. Plain theorems. -/
set_option linter.unusedVariables false
set_option linter.unusedSimpArgs false
namespace Go.Proofs.YtidlnilcdmhkiaaGreatDoor
open Go Go.Fw
set_option maxRecDepth 100000
/-- The bytes that are read, and how many were. -/
def src (bs : List A) (p : Int) : A := .bx [.sl false 1 bs, i64 p]
structure Src (bs : List A) : Prop where
  len : bs.length ≤ 1048576
  byte : ∀ i, i < bs.length → ∃ c : UInt8, bs[i]? = some (.sc (.int .u8 (c.toNat : Int)))
theorem Src.fn {bs : List A} (h : Src bs) : ∃ f : Nat → Int, (∀ i, i < bs.length → bs[i]? = some (.sc (.int .u8 (f i)))) ∧ ∀ i, 0 ≤ f i ∧ f i ≤ 255 := by
  have : ∀ i, ∃ x : Int, (i < bs.length → bs[i]? = some (.sc (.int .u8 x))) ∧ 0 ≤ x ∧ x ≤ 255 := fun i => by
    by_cases hi : i < bs.length
    · obtain ⟨c, hc⟩ := h.byte i hi
      refine ⟨c.toNat, fun _ => hc, Int.natCast_nonneg _, ?_⟩
      have := c.toNat_lt
      omega
    · exact ⟨0, fun h => absurd h hi, by omega, by omega⟩
  exact ⟨fun i => (this i).choose, fun i hi => (this i).choose_spec.1 hi, fun i => (this i).choose_spec.2⟩
end Go.Proofs.YtidlnilcdmhkiaaGreatDoor

/- Walks: draws of packages. Plain theorems. -/
set_option linter.unusedVariables false
set_option linter.unusedSimpArgs false
namespace Go.Proofs.YtidlnilcdmhkiaaGreatDoor
open Go Go.Fw
set_option maxRecDepth 100000
structure Pck.Tiny (o : Pck) : Prop where
  p : o.p.length ≤ 8
  d : o.d.length ≤ 8
  b : o.b.length ≤ 8
  e : ∀ l ∈ o.d, l.length ≤ 8
structure Pck.Tiny2 (o : Pck) : Prop where
  p : o.p.length ≤ 16
  d : o.d.length ≤ 16
  b : o.b.length ≤ 16
  e : ∀ l ∈ o.d, l.length ≤ 16
theorem Pck.Tiny.two {o : Pck} (h : o.Tiny) : o.Tiny2 := ⟨by have := h.p; omega, by have := h.d; omega, by have := h.b; omega, fun l hl => by have := h.e l hl; omega⟩
end Go.Proofs.YtidlnilcdmhkiaaGreatDoor

/- Walks: faults of a set. Plain theorems. -/
set_option linter.unusedVariables false
set_option linter.unusedSimpArgs false
namespace Go.Proofs.YtidlnilcdmhkiaaGreatDoor
open Go Go.Fw
set_option maxRecDepth 100000
structure Flt where
  k : Int
  p : Int
  a : Int
def Flt.enc (f : Flt) : A := .agg [i64 f.k, i64 f.p, i64 f.a]
def twB (c : List Pck) (s : List Int) (i : Nat) (n : List UInt8) : Bool := (s.take i).any fun j => (pk c j).n == n
/-- The place of the package of a name. -/
def nmF (c : List Pck) (n : List UInt8) : List Int → Int
  | [] => -1
  | k :: ks => if (pk c k).n == n then k else nmF c n ks
theorem nmF_at {c : List Pck} {n : List UInt8} {l : List Int} {i : Nat} {k : Int} (h : l[i]? = some k) : nmF c n (l.drop i) = if (pk c k).n == n then k else nmF c n (l.drop (i + 1)) := by
  obtain ⟨h1, h2⟩ := List.getElem?_eq_some_iff.1 h
  rw [List.drop_eq_getElem_cons h1, h2, nmF]
theorem nmF_any {c : List Pck} {n : List UInt8} : ∀ {l : List Int}, (∀ k ∈ l, 0 ≤ k) → (decide (0 ≤ nmF c n l)) = l.any fun j => (pk c j).n == n
  | [], _ => rfl
  | k :: l, h => by
    have ih := nmF_any (c := c) (n := n) (l := l) fun x hx => h x (by simp [hx])
    rw [nmF, List.any_cons]
    by_cases hb : ((pk c k).n == n) = true
    · rw [if_pos hb, hb, Bool.true_or]; exact decide_eq_true (h k (by simp))
    · rw [if_neg hb, ih, Bool.eq_false_iff.2 hb, Bool.false_or]
theorem c_named (l : List Pck) (s : List Int) (n : List UInt8) (hl : l.length ≤ 1048576) (hs : s.length ≤ 1048576) (hk : ∀ k ∈ s, inB k 0 ((l.length : Int) - 1) = true) : PCtr PP n_impl_named [encP l, .sl false 1 (s.map i64), str n] (i64 (nmF l n s)) := by
  obtain ⟨Ω, hΩ⟩ : ∃ Ω, Ω = std := ⟨_, rfl⟩
  obtain ⟨r, hr⟩ : ∃ r, r = nmF l n s := ⟨_, rfl⟩
  rw [← hr]
  have hat : ∀ k, inB k 0 ((l.length : Int) - 1) = true → 0 ≤ k ∧ ∃ v1 v2 v3 sz ps ds bs, (l.map (Pck.enc false))[k.toNat]? = some (.agg [str (pk l k).n, i64 v1, i64 v2, i64 v3, i64 sz, .sl false 1 ps, .sl false 1 ds, .sl false 7 bs]) ∧ pk l k ∈ l ∧
      Pck.enc false (pk l k) = .agg [str (pk l k).n, i64 v1, i64 v2, i64 v3, i64 sz, .sl false 1 ps, .sl false 1 ds, .sl false 7 bs] ∧ ds = (pk l k).d.map (encTs false) ∧ bs = (pk l k).b.map Trm.enc := fun k h => by
    obtain ⟨h0, h1, h2, h3⟩ := pk_at h
    obtain ⟨ps, ds, bs, hen, hp, hd, hb⟩ := enc_raw (pk l k)
    exact ⟨h0, _, _, _, _, ps, ds, bs, by rw [List.getElem?_map, h2]; exact congrArg some hen, h3, hen, hd, hb⟩
  obtain ⟨ys, hys⟩ : ∃ ys, ys = s.map i64 := ⟨_, rfl⟩
  have hylen : ys.length = s.length := by rw [hys, List.length_map]
  unfold encP at *
  rw [← hys]
  generalize l.map (Pck.enc false) = xs at *
  have htab := tab
  have hmo := hmo
  refine PCtr.walk tab hΩ fn_impl_named rfl ?_
  generalize PP = P at *
  cbv
  refine loopX htab hΩ (fun i : Nat => ⟨[(0, .sl false 8 xs), (2, .sc (.string (mkS n))), (9, .sl false 1 ys), (10, .sc (.int .i64 (Ω.int (Ω.len ys)))), (11, .sc (.int .i64 (Ω.int i)))], 24, []⟩) (fun i => i ≤ s.length ∧ r = nmF l n (s.drop i)) (fun i => s.length - i) 0
    ⟨Nat.zero_le _, hr⟩ (Sbs.mk rfl rfl ⟨rfl, rfl, rfl, rfl, zeroI hΩ, trivial⟩) ?_
  rintro i ⟨hi, he⟩
  cbv
  refine br (fun h => ?_) (fun h => ?_) <;> cbv
  · replace h := ltI hΩ h
    obtain ⟨c, hcc⟩ := at_of (cs := s) (by omega : i < s.length)
    rw [nmF_at hcc] at he
    obtain ⟨hc0, v1, v2, v3, sz, ps, ds, bs, hx, -, -, -⟩ := hat c (hk c (List.mem_of_getElem? hcc))
    generalize (pk l c).n = nn at hx he
    refine ⟨⟨nnI hΩ⟩, _, rdI hΩ hys hcc, ?_⟩
    cbv
    refine ⟨⟨hc0⟩, _, hx, ?_⟩
    cbv
    refine br (fun g => ?_) (fun g => ?_) <;> cbv
    · exact .of (congrArg i64 (by rw [he, if_pos (by subst hΩ; exact g)]))
    · rw [if_neg (by subst hΩ; rw [show (nn == n) = false from g]; simp)] at he
      exact ⟨i + 1, ⟨by omega, he⟩, by omega, Sbs.mk rfl rfl ⟨rfl, rfl, rfl, rfl, incI hΩ (by omega), trivial⟩⟩
  · replace h := geI hΩ h
    exact .of (congrArg i64 (by rw [he, List.drop_of_length_le (by omega)]; rfl))
end Go.Proofs.YtidlnilcdmhkiaaGreatDoor

/- Walks: the reference's solver, as far as draws ask for it. Plain theorems. -/
set_option linter.unusedVariables false
set_option linter.unusedSimpArgs false
namespace Go.Proofs.YtidlnilcdmhkiaaGreatDoor
open Go Go.Fw
set_option maxRecDepth 100000
/-- A number put into a rising list. -/
def put3 (v : Int) : List Int → List Int
  | [] => [v]
  | x :: xs => if v < x then v :: x :: xs else x :: put3 v xs
theorem put3_len (v : Int) : ∀ l : List Int, (put3 v l).length = l.length + 1
  | [] => rfl
  | x :: xs => by rw [put3]; split <;> simp [put3_len v xs]
theorem put3_not {v : Int} : ∀ {l : List Int}, l.any (fun x => decide (v < x)) = false → put3 v l = l ++ [v]
  | [], _ => rfl
  | x :: xs, h => by
    simp only [List.any_cons, Bool.or_eq_false_iff, decide_eq_false_iff_not] at h
    rw [put3, if_neg h.1, put3_not h.2]; rfl
theorem put3_snoc {v x : Int} : ∀ {l : List Int}, l.any (fun x => decide (v < x)) = true → put3 v (l ++ [x]) = put3 v l ++ [x]
  | [], h => by cases h
  | y :: ys, h => by
    rw [List.cons_append, put3, put3]
    split
    · rfl
    · rename_i hy
      simp only [List.any_cons, Bool.or_eq_true, decide_eq_true_eq] at h
      rw [put3_snoc (h.resolve_left hy)]; rfl
theorem put3_snoc2 {v x : Int} : ∀ {l : List Int}, l.any (fun x => decide (v < x)) = false → v < x → put3 v (l ++ [x]) = l ++ [v] ++ [x]
  | [], _, h => by show put3 v [x] = _; rw [put3, if_pos h]; rfl
  | y :: ys, h, hx => by
    simp only [List.any_cons, Bool.or_eq_false_iff, decide_eq_false_iff_not] at h
    rw [List.cons_append, put3, if_neg h.1, put3_snoc2 h.2 hx]; rfl
/-- What stands behind i numbers of the list. -/
def putUp (v : Int) (l : List Int) : List Int := if l.any (fun x => decide (v < x)) then put3 v l else l
theorem putUp_step {v x : Int} {l : List Int} : putUp v (l ++ [x]) = if l.any (fun x => decide (v < x)) = false ∧ v < x then putUp v l ++ [v] ++ [x] else putUp v l ++ [x] := by
  unfold putUp
  rw [List.any_append]
  simp only [List.any_cons, List.any_nil, Bool.or_false]
  cases h : l.any (fun x => decide (v < x)) with
  | true => simp [put3_snoc h]
  | false =>
    by_cases hx : v < x
    · simp [hx, put3_snoc2 h hx]
    · simp [hx]
theorem putUp_end {v : Int} {l : List Int} : put3 v l = if l.any (fun x => decide (v < x)) then putUp v l else putUp v l ++ [v] := by
  unfold putUp
  cases h : l.any (fun x => decide (v < x)) with
  | true => simp
  | false => simp [put3_not h]
theorem putUp_len (v : Int) (l : List Int) : (putUp v l).length ≤ l.length + 1 := by unfold putUp; split <;> simp [put3_len]
theorem c_l3Put (s : List Int) (v : Int) (hs : s.length ≤ 1048576) : PCtr PP n_spec_l3Put [.sl false 1 (s.map i64), i64 v] (.sl true 1 ((put3 v s).map i64)) := by
  obtain ⟨Ω, hΩ⟩ : ∃ Ω, Ω = std := ⟨_, rfl⟩
  obtain ⟨xs, hxs⟩ : ∃ xs, xs = s.map i64 := ⟨_, rfl⟩
  have hlen : xs.length = s.length := by rw [hxs, List.length_map]
  rw [← hxs]
  obtain ⟨U, hU⟩ : ∃ U : Nat → List Int, U = fun i => putUp v (s.take i) := ⟨_, rfl⟩
  obtain ⟨D, hD⟩ : ∃ D : Nat → Bool, D = fun i => (s.take i).any fun x => decide (v < x) := ⟨_, rfl⟩
  obtain ⟨F, hF⟩ : ∃ F : Nat → List A, F = fun i => (U i).map i64 := ⟨_, rfl⟩
  have hF0 : F 0 = [] := by rw [hF, hU]; rfl
  have hD0 : D 0 = false := by rw [hD]; rfl
  have hFl : ∀ i, (F i).length = (U i).length := fun i => by rw [hF]; exact List.length_map _
  have hUl : ∀ i, (U i).length ≤ i + 1 := fun i => by rw [hU]; exact Nat.le_trans (putUp_len _ _) (by simp; omega)
  have hst : ∀ i c, s[i]? = some c → U (i + 1) = (if D i = false ∧ v < c then U i ++ [v] ++ [c] else U i ++ [c]) ∧ D (i + 1) = (D i || decide (v < c)) := fun i c h => by
    rw [hU, hD]; dsimp only
    rw [List.take_add_one, h]
    exact ⟨putUp_step, by rw [List.any_append]; simp⟩
  have hs1 : ∀ i n L, (U i).length = L → Ω.app (Ω.take L (F i)) [i64 n] = (U i ++ [n]).map i64 := fun i n L h => by
    subst hΩ; rw [hF]; show List.take L (List.map i64 (U i)) ++ _ = _
    rw [List.map_append, List.take_of_length_le (by simp; omega)]; rfl
  have hs2 : ∀ i n n2 L, (U i).length = L → Ω.app (Ω.take (Ω.plus L (Ω.len [i64 n])) (Ω.app (Ω.take L (F i)) [i64 n])) [i64 n2] = (U i ++ [n] ++ [n2]).map i64 := fun i n n2 L h => by
    rw [hs1 i n L h]; subst hΩ; show List.take (L + 1) _ ++ _ = _
    rw [List.map_append (l₂ := [n2]), List.take_of_length_le (by simp; omega)]; rfl
  have hend : put3 v s = if D s.length then U s.length else U s.length ++ [v] := by
    have h0 := @putUp_end v (s.take s.length)
    rw [hU, hD]; show put3 v s = if ((s.take s.length).any fun x => decide (v < x)) = true then putUp v (s.take s.length) else putUp v (s.take s.length) ++ [v]
    rw [← h0, List.take_length]
  have hFm : ∀ i, F i = (U i).map i64 := fun i => by rw [hF]
  clear hF hU hD
  have htab := tab
  refine PCtr.walk tab hΩ fn_spec_l3Put rfl ?_
  obtain ⟨R, hR⟩ : ∃ R, R = put3 v s := ⟨_, rfl⟩
  rw [← hR] at hend ⊢
  obtain ⟨G, hG⟩ : ∃ G, G = R.map i64 := ⟨_, rfl⟩
  rw [← hG]
  generalize PP = P at *
  cbv
  refine loopX htab hΩ (fun i : Nat => ⟨[(0, .sl false 1 xs), (1, i64 v), (5, .vw 0 0 (U i).length), (6, boo (D i)), (7, i64 (Ω.int i))], 43, [some ⟨1, F i, false⟩]⟩) (fun i => i ≤ s.length) (fun i => s.length - i) 0 (Nat.zero_le _)
    (Sbs.mk rfl (by rw [hF0]) ⟨rfl, rfl, by have := hFl 0; rw [hF0] at this; rw [← this]; rfl, by rw [hD0]; rfl, zeroI hΩ, trivial⟩) ?_
  intro i hi
  have hFli := hFl i
  have hUli := hUl i
  have hs1i := hs1 i
  have hs2i := hs2 i
  have hsti := hst i
  have hFi1 := hFm (i + 1)
  obtain ⟨m, hm⟩ : ∃ m, (U i).length = m := ⟨_, rfl⟩
  obtain ⟨d, hd⟩ : ∃ d, D i = d := ⟨_, rfl⟩
  have e1 : ∀ n, [some (Row.mk 1 (Ω.app (Ω.take m (F i)) [i64 n]) false)] = [some (Row.mk 1 ((U i ++ [n]).map i64) false)] := fun n => by rw [hs1i n m hm]
  have l1 : ∀ n : Int, A.vw 0 0 (Ω.plus m (Ω.len [i64 n])) = .vw 0 0 (U i ++ [n]).length := fun n => by subst hΩ; rw [List.length_append, hm]; rfl
  have e2 : ∀ n n2, [some (Row.mk 1 (Ω.app (Ω.take (Ω.plus m (Ω.len [i64 n])) (Ω.app (Ω.take m (F i)) [i64 n])) [i64 n2]) false)] = [some (Row.mk 1 ((U i ++ [n] ++ [n2]).map i64) false)] := fun n n2 => by rw [hs2i n n2 m hm]
  have l2 : ∀ n n2 : Int, A.vw 0 0 (Ω.plus (Ω.plus m (Ω.len [i64 n])) (Ω.len [i64 n2])) = .vw 0 0 (U i ++ [n] ++ [n2]).length := fun n n2 => by subst hΩ; rw [List.length_append, List.length_append, hm]; rfl
  rw [hd] at hsti ⊢
  rw [hm] at hFli hUli ⊢
  cbv
  refine br (fun h => ?_) (fun h => ?_) <;> cbv
  · replace h := ltI hΩ h
    obtain ⟨c, hc⟩ := at_of (cs := s) (by omega : i < s.length)
    obtain ⟨q1, q2⟩ := hsti c hc
    have hok : (m + 1) * 8 ≤ 140737488355328 ∧ m + 1 ≤ 9223372036854775807 := by omega
    have hok2 : (Ω.plus m (Ω.len [i64 v]) + 1) * 8 ≤ 140737488355328 ∧ Ω.plus m (Ω.len [i64 v]) + 1 ≤ 9223372036854775807 := by
      have e : Ω.plus m (Ω.len [i64 v]) = m + 1 := by subst hΩ; rfl
      rw [e]; omega
    refine ⟨⟨nnI hΩ⟩, _, rdI hΩ hxs hc, ?_⟩
    cbv
    refine br (fun g1 => ?_) (fun g1 => ?_) <;> cbv
    · have g1 := gtI_t hΩ g1
      refine br (fun g2 => ?_) (fun g2 => ?_) <;> cbv
      · have g2 : d = false := notT' hΩ (by subst hΩ; exact g2)
        rw [if_pos ⟨g2, g1⟩] at q1
        refine ⟨⟨rfl, okAll rfl, hok.1, hok.2⟩, ?_⟩
        refine ⟨⟨nnI hΩ⟩, _, rdI hΩ hxs hc, ?_⟩
        cbv
        exact ⟨⟨rfl, okAll rfl, hok2.1, hok2.2⟩, i + 1, by omega, by omega, (Sbs.cut 1 rfl).trans (Sbs.mk rfl (by show _ = [some (Row.mk 1 (F (i + 1)) false)]; rw [hFi1, q1, ← e2 v c]; rfl) ⟨rfl, rfl, by rw [q1]; exact l2 v c, by rw [q2]; show boo true = _; rw [decide_eq_true g1, Bool.or_true], incI hΩ (by omega), trivial⟩)⟩
      · have g2 : d = true := notF' hΩ (by subst hΩ; exact g2)
        rw [if_neg (by rw [g2]; simp)] at q1
        refine ⟨⟨nnI hΩ⟩, _, rdI hΩ hxs hc, ?_⟩
        cbv
        exact ⟨⟨rfl, okAll rfl, hok.1, hok.2⟩, i + 1, by omega, by omega, (Sbs.cut 1 rfl).trans (Sbs.mk rfl (by show _ = [some (Row.mk 1 (F (i + 1)) false)]; rw [hFi1, q1, ← e1 c]; rfl) ⟨rfl, rfl, by rw [q1]; exact l1 c, by rw [q2, g2]; rfl, incI hΩ (by omega), trivial⟩)⟩
    · have g1 := gtI_f hΩ g1
      rw [if_neg (by omega)] at q1
      refine ⟨⟨nnI hΩ⟩, _, rdI hΩ hxs hc, ?_⟩
      cbv
      exact ⟨⟨rfl, okAll rfl, hok.1, hok.2⟩, i + 1, by omega, by omega, (Sbs.cut 1 rfl).trans (Sbs.mk rfl (by show _ = [some (Row.mk 1 (F (i + 1)) false)]; rw [hFi1, q1, ← e1 c]; rfl) ⟨rfl, rfl, by rw [q1]; exact l1 c, by rw [q2, decide_eq_false (by omega), Bool.or_false]; rfl, incI hΩ (by omega), trivial⟩)⟩
  · have h := geI hΩ h
    have hil : i = s.length := by omega
    rw [← hil] at hend
    refine br (fun g => ?_) (fun g => ?_) <;> cbv
    · have g : d = false := notT' hΩ (by subst hΩ; exact g)
      rw [hd, g, if_neg (by simp)] at hend
      refine ⟨⟨rfl, okAll rfl, by show (m + 1) * 8 ≤ 140737488355328; omega, by show m + 1 ≤ 9223372036854775807; omega⟩, ⟨rfl, ?_⟩, ?_⟩
      · show Ω.plus m (Ω.len [i64 v]) ≤ (Ω.app (Ω.take m (F i)) [i64 v]).length
        rw [hs1i v m hm]; subst hΩ; rw [List.length_map, List.length_append, hm]; exact Nat.le_refl _
      · have e : A.sl true 1 (Ω.take (Ω.plus m (Ω.len [i64 v])) (Ω.app (Ω.take m (F i)) [i64 v])) = .sl true 1 G := by
          rw [hs1i v m hm, hG, hend]; subst hΩ; exact congrArg _ (List.take_of_length_le (by rw [List.length_map, List.length_append, hm]; exact Nat.le_refl _))
        exact .of e
    · have g : d = true := notF' hΩ (by subst hΩ; exact g)
      rw [hd, g, if_pos rfl] at hend
      refine ⟨⟨rfl, ?_⟩, ?_⟩
      · show m ≤ (F i).length; omega
      · have e : A.sl true 1 (Ω.take m (F i)) = .sl true 1 G := by
          rw [hFm i, hG, hend]; subst hΩ; exact congrArg _ (List.take_of_length_le (by rw [List.length_map, hm]; exact Nat.le_refl _))
        exact .of e
end Go.Proofs.YtidlnilcdmhkiaaGreatDoor

/- Walks: names in a set, sets without a place; what they say of plain data. Plain theorems. -/
set_option linter.unusedVariables false
set_option linter.unusedSimpArgs false
namespace Go.Proofs.YtidlnilcdmhkiaaGreatDoor
open Go Go.Fw
set_option maxRecDepth 100000
theorem c_l5One (l : List Pck) (s : List Int) (n : List UInt8) (hl : l.length ≤ 1048576) (hs : s.length ≤ 1048576) (hk : ∀ k ∈ s, inB k 0 ((l.length : Int) - 1) = true) : PCtr PP n_spec_l5One [encP l, .sl false 1 (s.map i64), str n] (i64 (nmF l n s)) := by
  obtain ⟨Ω, hΩ⟩ : ∃ Ω, Ω = std := ⟨_, rfl⟩
  obtain ⟨r, hr⟩ : ∃ r, r = nmF l n s := ⟨_, rfl⟩
  rw [← hr]
  have hat : ∀ k, inB k 0 ((l.length : Int) - 1) = true → 0 ≤ k ∧ ∃ v1 v2 v3 sz ps ds bs, (l.map (Pck.enc false))[k.toNat]? = some (.agg [str (pk l k).n, i64 v1, i64 v2, i64 v3, i64 sz, .sl false 1 ps, .sl false 1 ds, .sl false 7 bs]) := fun k h => by
    obtain ⟨h0, h1, h2, h3⟩ := pk_at h
    obtain ⟨ps, ds, bs, hen, hp, hd, hb⟩ := enc_raw (pk l k)
    exact ⟨h0, _, _, _, _, ps, ds, bs, by rw [List.getElem?_map, h2]; exact congrArg some hen⟩
  obtain ⟨ys, hys⟩ : ∃ ys, ys = s.map i64 := ⟨_, rfl⟩
  have hylen : ys.length = s.length := by rw [hys, List.length_map]
  unfold encP at *
  rw [← hys]
  generalize l.map (Pck.enc false) = xs at *
  have htab := tab
  have hmo := hmo
  refine PCtr.walk tab hΩ fn_spec_l5One rfl ?_
  generalize PP = P at *
  cbv
  refine loopX htab hΩ (fun i : Nat => ⟨[(0, .sl false 8 xs), (1, .sl false 1 ys), (2, .sc (.string (mkS n))), (7, .sc (.int .i64 (Ω.int i)))], 28, []⟩) (fun i => i ≤ s.length ∧ r = nmF l n (s.drop i)) (fun i => s.length - i) 0
    ⟨Nat.zero_le _, hr⟩ (Sbs.mk rfl rfl ⟨rfl, rfl, rfl, zeroI hΩ, trivial⟩) ?_
  rintro i ⟨hi, he⟩
  cbv
  refine br (fun h => ?_) (fun h => ?_) <;> cbv
  · replace h := ltI hΩ h
    obtain ⟨c, hcc⟩ := at_of (cs := s) (by omega : i < s.length)
    rw [nmF_at hcc] at he
    obtain ⟨hc0, v1, v2, v3, sz, ps, ds, bs, hx⟩ := hat c (hk c (List.mem_of_getElem? hcc))
    generalize (pk l c).n = nn at hx he
    refine ⟨⟨nnI hΩ⟩, _, rdI hΩ hys hcc, ?_⟩
    cbv
    refine ⟨⟨hc0⟩, _, hx, ?_⟩
    cbv
    refine br (fun g => ?_) (fun g => ?_) <;> cbv
    · refine ⟨⟨nnI hΩ⟩, _, rdI hΩ hys hcc, ?_⟩
      cbv
      exact .of (congrArg i64 (by rw [he, if_pos (by subst hΩ; exact g)]))
    · rw [if_neg (by subst hΩ; rw [show (nn == n) = false from g]; simp)] at he
      exact ⟨i + 1, ⟨by omega, he⟩, by omega, Sbs.mk rfl rfl ⟨rfl, rfl, rfl, incI hΩ (by omega), trivial⟩⟩
  · replace h := geI hΩ h
    exact .of (congrArg i64 (by rw [he, List.drop_of_length_le (by omega)]; rfl))
/-- Is a name borne twice? -/
def twice (c : List Pck) (s : List Int) : Nat → List Int → Bool
  | _, [] => false
  | i, k :: ks => twB c s i (pk c k).n || twice c s (i + 1) ks
theorem twice_at {c : List Pck} {s : List Int} {l : List Int} {i : Nat} {k : Int} {j : Nat} (h : l[i]? = some k) : twice c s j (l.drop i) = (twB c s j (pk c k).n || twice c s (j + 1) (l.drop (i + 1))) := by
  obtain ⟨h1, h2⟩ := List.getElem?_eq_some_iff.1 h
  rw [List.drop_eq_getElem_cons h1, h2, twice]
theorem c_isTwice (l : List Pck) (s : List Int) (hl : l.length ≤ 1048576) (hs : s.length ≤ 1048576) (hk : ∀ k ∈ s, inB k 0 ((l.length : Int) - 1) = true) : PCtr PP n_impl_isTwice [encP l, .sl false 1 (s.map i64)] (boo (twice l s 0 s)) := by
  obtain ⟨Ω, hΩ⟩ : ∃ Ω, Ω = std := ⟨_, rfl⟩
  obtain ⟨r, hr⟩ : ∃ r, r = twice l s 0 s := ⟨_, rfl⟩
  rw [← hr]
  have hat : ∀ k, inB k 0 ((l.length : Int) - 1) = true → 0 ≤ k ∧ ∃ v1 v2 v3 sz ps ds bs, (l.map (Pck.enc false))[k.toNat]? = some (.agg [str (pk l k).n, i64 v1, i64 v2, i64 v3, i64 sz, .sl false 1 ps, .sl false 1 ds, .sl false 7 bs]) := fun k h => by
    obtain ⟨h0, h1, h2, h3⟩ := pk_at h
    obtain ⟨ps, ds, bs, hen, hp, hd, hb⟩ := enc_raw (pk l k)
    exact ⟨h0, _, _, _, _, ps, ds, bs, by rw [List.getElem?_map, h2]; exact congrArg some hen⟩
  have hnm : ∀ (i : Nat) (n : List UInt8), ∃ q, decide (0 ≤ q) = twB l s i n ∧ PCtr PP n_impl_named [encP l, .sl false 1 ((s.map i64).take i), str n] (i64 q) := fun i n => by
    refine ⟨nmF l n (s.take i), nmF_any fun k h => (pk_at (hk k (List.mem_of_mem_take h))).1, ?_⟩
    have := c_named l (s.take i) n hl (by rw [List.length_take]; omega) (fun k h => hk k (List.mem_of_mem_take h))
    rw [List.map_take] at this; exact this
  obtain ⟨ys, hys⟩ : ∃ ys, ys = s.map i64 := ⟨_, rfl⟩
  have hylen : ys.length = s.length := by rw [hys, List.length_map]
  unfold encP at *
  rw [← hys] at hnm ⊢
  generalize l.map (Pck.enc false) = xs at *
  have htab := tab
  have hmo := hmo
  refine PCtr.walk tab hΩ fn_impl_isTwice rfl ?_
  generalize PP = P at *
  cbv
  refine loopX htab hΩ (fun i : Nat => ⟨[(0, .sl false 8 xs), (1, .sl false 1 ys), (7, .sl false 1 ys), (8, .sc (.int .i64 (Ω.int (Ω.len ys)))), (9, .sc (.int .i64 (Ω.int i)))], 26, []⟩) (fun i => i ≤ s.length ∧ r = twice l s i (s.drop i)) (fun i => s.length - i) 0
    ⟨Nat.zero_le _, hr⟩ (Sbs.mk rfl rfl ⟨rfl, rfl, rfl, rfl, zeroI hΩ, trivial⟩) ?_
  rintro i ⟨hi, he⟩
  cbv
  refine br (fun h => ?_) (fun h => ?_) <;> cbv
  · replace h := ltI hΩ h
    obtain ⟨c, hcc⟩ := at_of (cs := s) (by omega : i < s.length)
    rw [twice_at hcc] at he
    obtain ⟨hc0, v1, v2, v3, sz, ps, ds, bs, hx⟩ := hat c (hk c (List.mem_of_getElem? hcc))
    generalize (pk l c).n = nn at hx he
    obtain ⟨q, hq, hcall⟩ := hnm i nn
    rw [← hq] at he
    refine ⟨⟨nnI hΩ⟩, _, rdI hΩ hys hcc, ?_⟩
    cbv
    refine ⟨VC_drawn htab hΩ hmo (by kernel_rfl) ?_⟩
    cbv
    refine ⟨⟨trivial, nnI hΩ, Nat.zero_le _, by subst hΩ; show ((i : Int)).toNat ≤ ys.length; omega⟩, ⟨hc0⟩, _, hx, ?_⟩
    cbv
    refine QCall_pure (k := 3) hcall rfl (fitsE (by subst hΩ; rfl)) rfl ?_
    cbv
    refine br (fun g => ?_) (fun g => ?_) <;> cbv
    · have g : 0 ≤ q := by subst hΩ; exact ge_t g
      exact .of (congrArg boo (by rw [he, decide_eq_true g]; rfl))
    · have g : ¬ 0 ≤ q := by have : q < 0 := by (subst hΩ; exact ge_f g)
                             omega
      rw [decide_eq_false g, Bool.false_or] at he
      exact ⟨i + 1, ⟨by omega, he⟩, by omega, Sbs.mk rfl rfl ⟨rfl, rfl, rfl, rfl, incI hΩ (by omega), trivial⟩⟩
  · replace h := geI hΩ h
    exact .of (congrArg boo (by rw [he, List.drop_of_length_le (by omega)]; rfl))
/-- Each name leads to its own place. -/
def apart (c : List Pck) (s : List Int) : List Int → Bool
  | [] => true
  | k :: ks => decide (nmF c (pk c k).n s = k) && apart c s ks
theorem apart_at {c : List Pck} {s : List Int} {l : List Int} {i : Nat} {k : Int} (h : l[i]? = some k) : apart c s (l.drop i) = (decide (nmF c (pk c k).n s = k) && apart c s (l.drop (i + 1))) := by
  obtain ⟨h1, h2⟩ := List.getElem?_eq_some_iff.1 h
  rw [List.drop_eq_getElem_cons h1, h2, apart]
theorem c_l5Apart (l : List Pck) (s : List Int) (hl : l.length ≤ 1048576) (hs : s.length ≤ 1048576) (hk : ∀ k ∈ s, inB k 0 ((l.length : Int) - 1) = true) : PCtr PP n_spec_l5Apart [encP l, .sl false 1 (s.map i64)] (boo (apart l s s)) := by
  obtain ⟨Ω, hΩ⟩ : ∃ Ω, Ω = std := ⟨_, rfl⟩
  obtain ⟨r, hr⟩ : ∃ r, r = apart l s s := ⟨_, rfl⟩
  rw [← hr]
  have hat : ∀ k, inB k 0 ((l.length : Int) - 1) = true → 0 ≤ k ∧ ∃ v1 v2 v3 sz ps ds bs, (l.map (Pck.enc false))[k.toNat]? = some (.agg [str (pk l k).n, i64 v1, i64 v2, i64 v3, i64 sz, .sl false 1 ps, .sl false 1 ds, .sl false 7 bs]) := fun k h => by
    obtain ⟨h0, h1, h2, h3⟩ := pk_at h
    obtain ⟨ps, ds, bs, hen, hp, hd, hb⟩ := enc_raw (pk l k)
    exact ⟨h0, _, _, _, _, ps, ds, bs, by rw [List.getElem?_map, h2]; exact congrArg some hen⟩
  have hone := fun n => c_l5One l s n hl hs hk
  obtain ⟨Q, hQ⟩ : ∃ Q : Int → Int → Bool, Q = fun a b => decide (a = b) := ⟨_, rfl⟩
  obtain ⟨ys, hys⟩ : ∃ ys, ys = s.map i64 := ⟨_, rfl⟩
  have hylen : ys.length = s.length := by rw [hys, List.length_map]
  unfold encP at *
  rw [← hys] at hone ⊢
  generalize l.map (Pck.enc false) = xs at *
  have htab := tab
  have hmo := hmo
  refine PCtr.walk tab hΩ fn_spec_l5Apart rfl ?_
  generalize PP = P at *
  cbv
  refine loopX htab hΩ (fun i : Nat => ⟨[(0, .sl false 8 xs), (1, .sl false 1 ys), (5, .sc (.int .i64 (Ω.int i)))], 28, []⟩) (fun i => i ≤ s.length ∧ r = apart l s (s.drop i)) (fun i => s.length - i) 0
    ⟨Nat.zero_le _, hr⟩ (Sbs.mk rfl rfl ⟨rfl, rfl, zeroI hΩ, trivial⟩) ?_
  rintro i ⟨hi, he⟩
  cbv
  refine br (fun h => ?_) (fun h => ?_) <;> cbv
  · replace h := ltI hΩ h
    obtain ⟨c, hcc⟩ := at_of (cs := s) (by omega : i < s.length)
    rw [apart_at hcc] at he
    obtain ⟨hc0, v1, v2, v3, sz, ps, ds, bs, hx⟩ := hat c (hk c (List.mem_of_getElem? hcc))
    have hone := hone (pk l c).n
    generalize nmF l (pk l c).n s = q at hone he
    generalize (pk l c).n = nn at hx hone
    refine ⟨VC_drawn htab hΩ hmo (by kernel_rfl) ?_⟩
    cbv
    refine ⟨⟨nnI hΩ⟩, _, rdI hΩ hys hcc, ?_⟩
    cbv
    refine ⟨⟨hc0⟩, _, hx, ?_⟩
    cbv
    refine QCall_pure (k := 3) hone rfl (fits _) rfl ?_
    cbv
    refine ⟨⟨nnI hΩ⟩, _, rdI hΩ hys hcc, ?_⟩
    cbv
    refine br (fun g => ?_) (fun g => ?_) <;> cbv
    · have g := neI_t hΩ g
      exact .of (congrArg boo (by rw [he, decide_eq_false g]; rfl))
    · have g := neI_f hΩ g
      rw [decide_eq_true g, Bool.true_and] at he
      exact ⟨i + 1, ⟨by omega, he⟩, by omega, Sbs.mk rfl rfl ⟨rfl, rfl, incI hΩ (by omega), trivial⟩⟩
  · replace h := geI hΩ h
    exact .of (congrArg boo (by rw [he, List.drop_of_length_le (by omega)]; rfl))
end Go.Proofs.YtidlnilcdmhkiaaGreatDoor

/- Walks: the reference's solver, its parts. Plain theorems. -/
set_option linter.unusedVariables false
set_option linter.unusedSimpArgs false
namespace Go.Proofs.YtidlnilcdmhkiaaGreatDoor
open Go Go.Fw
set_option maxRecDepth 100000
theorem put3_mem {v x : Int} : ∀ {l : List Int}, x ∈ put3 v l → x = v ∨ x ∈ l
  | [], h => by simp [put3] at h; exact .inl h
  | y :: ys, h => by
    rw [put3] at h
    split at h
    · simp at h; rcases h with h | h | h <;> simp [h]
    · rcases List.mem_cons.1 h with h | h
      · simp [h]
      · rcases put3_mem h with h | h <;> simp [h]
end Go.Proofs.YtidlnilcdmhkiaaGreatDoor

/- Walks: a change put to a set. Plain theorems. -/
set_option linter.unusedVariables false
set_option linter.unusedSimpArgs false
namespace Go.Proofs.YtidlnilcdmhkiaaGreatDoor
open Go Go.Fw
set_option maxRecDepth 100000
def newS (c : List Pck) (s : List Int) (x : Chg) : List Int :=
  let a := if x.k = 1 then s else s.filter fun k => !decide (k = nmF c x.n s)
  if x.k = 2 then a else put3 (findF c x.n x.w) a
def newC (c : List Pck) (s : List Int) (x : Chg) : Int :=
  if inB x.k 1 3 = false then 5 else if (x.k ≠ 1 ∧ (nmF c x.n s < 0 ∨ cmpV (pk c (nmF c x.n s)).v x.o ≠ 0)) ∨ (x.k ≠ 2 ∧ findF c x.n x.w < 0) then 4 else if x.k = 1 ∧ 0 ≤ nmF c x.n s then 6 else 0
theorem nmF_mem {c : List Pck} {n : List UInt8} : ∀ {s : List Int}, 0 ≤ nmF c n s → nmF c n s ∈ s
  | [], h => by rw [nmF] at h; omega
  | k :: s, h => by
    rw [nmF] at h ⊢
    split
    · simp
    · rename_i h0; rw [if_neg h0] at h; exact List.mem_cons_of_mem _ (nmF_mem h)
end Go.Proofs.YtidlnilcdmhkiaaGreatDoor

/- Walks: the program's change of a set. Plain theorems. -/
set_option linter.unusedVariables false
set_option linter.unusedSimpArgs false
namespace Go.Proofs.YtidlnilcdmhkiaaGreatDoor
open Go Go.Fw
set_option maxRecDepth 100000
theorem perm_sorted : ∀ {a b : List Int}, a.Perm b → a.Pairwise (· ≤ ·) → b.Pairwise (· ≤ ·) → a = b
  | [], b, h, _, _ => h.nil_eq
  | x :: a, [], h, _, _ => by have := h.length_eq; simp at this
  | x :: a, y :: b, h, ha, hb => by
    rw [List.pairwise_cons] at ha hb
    have hx : x ∈ y :: b := h.subset (by simp)
    have hy : y ∈ x :: a := h.symm.subset (by simp)
    have e : x = y := by
      rcases List.mem_cons.1 hx with rfl | hx
      · rfl
      · rcases List.mem_cons.1 hy with rfl | hy
        · rfl
        · have := ha.1 y hy; have := hb.1 x hx; omega
    subst e
    rw [perm_sorted h.cons_inv ha.2 hb.2]
theorem put3_perm (v : Int) : ∀ l : List Int, (put3 v l).Perm (v :: l)
  | [] => .refl _
  | x :: l => by
    rw [put3]
    split
    · exact .refl _
    · exact ((put3_perm v l).cons x).trans (.swap _ _ _)
theorem put3_sorted {v : Int} : ∀ {l : List Int}, l.Pairwise (· ≤ ·) → (put3 v l).Pairwise (· ≤ ·)
  | [], _ => by simp [put3]
  | x :: l, h => by
    rw [List.pairwise_cons] at h
    rw [put3]
    split
    · rename_i hv
      rw [List.pairwise_cons, List.pairwise_cons]
      refine ⟨fun y hy => ?_, h⟩
      rcases List.mem_cons.1 hy with rfl | hy
      · omega
      · have := h.1 y hy; omega
    · rename_i hv
      rw [List.pairwise_cons]
      refine ⟨fun y hy => ?_, put3_sorted h.2⟩
      rcases put3_mem hy with rfl | hy
      · omega
      · exact h.1 y hy
theorem sortZ_sorted (l : List Int) : (sortZ l).Pairwise (· ≤ ·) := by
  have := List.pairwise_mergeSort (le := fun x y : Int => decide (x ≤ y)) (by intro a b c; simp; omega) (by intro a b; simp; omega) l
  exact this.imp fun h => by simpa using h
theorem sortZ_put {l : List Int} (h : l.Pairwise (· ≤ ·)) (v : Int) : sortZ (l ++ [v]) = put3 v l :=
  perm_sorted ((List.mergeSort_perm _ _).trans (List.perm_append_singleton v l |>.trans (put3_perm v l).symm)) (sortZ_sorted _) (put3_sorted h)
end Go.Proofs.YtidlnilcdmhkiaaGreatDoor

/- Walks: sets are read from their text, in the spec. Plain theorems. -/
set_option linter.unusedVariables false
set_option linter.unusedSimpArgs false
namespace Go.Proofs.YtidlnilcdmhkiaaGreatDoor
open Go Go.Fw Go.Sort
set_option maxRecDepth 100000
theorem sortZ_perm (l : List Int) : (sortZ l).Perm l := List.mergeSort_perm _ _
theorem sortZ_snoc (o : List Int) (k : Int) : sortZ (o ++ [k]) = put3 k (sortZ o) := by
  rw [← sortZ_put (sortZ_sorted o)]
  exact perm_sorted ((sortZ_perm _).trans (((sortZ_perm o).symm.append_right [k]).trans (sortZ_perm _).symm)) (sortZ_sorted _) (sortZ_sorted _)
theorem sortZ_any (o : List Int) (k : Int) : (sortZ o).any (· == k) = o.any (· == k) := by
  rw [Bool.eq_iff_iff, List.any_eq_true, List.any_eq_true]
  exact ⟨fun ⟨x, h, e⟩ => ⟨x, (sortZ_perm o).mem_iff.1 h, e⟩, fun ⟨x, h, e⟩ => ⟨x, (sortZ_perm o).mem_iff.2 h, e⟩⟩
theorem sortZ_len (o : List Int) : (sortZ o).length = o.length := List.length_mergeSort _
theorem c_l3Parse (l : List Pck) (s : List UInt8) (hl : l.length ≤ 1048576) (hs : s.length ≤ 1048576) : PCtr PP n_spec_l3Parse [encP l, str s] (setR (prsS l s).1 (prsS l s).2.1 (prsS l s).2.2) := by
  obtain ⟨Ω, hΩ⟩ : ∃ Ω, Ω = std := ⟨_, rfl⟩
  obtain ⟨F, hF⟩ := grw hΩ i64
  obtain ⟨R, hR⟩ : ∃ R, R = setR (prsS l s).1 (prsS l s).2.1 (prsS l s).2.2 := ⟨_, rfl⟩
  rw [← hR]
  unfold prsS at hR
  have many : 4000 < s.length → R = .agg [i64 2, i64 0, .sl true 1 []] := fun h => by rw [hR, if_pos h]; rfl
  have go : ¬ 4000 < s.length → R = setR (prsL l (linesP s) 0 []).1 (prsL l (linesP s) 0 []).2.1 (sortZ (prsL l (linesP s) 0 []).2.2) := fun h => by rw [hR, if_neg h]
  clear hR
  have hln := linesP_len (s := s)
  have hmem := fun l => linesP_mem (s := s) (l := l)
  have hlc : s.length ≤ 4000 → PCtr PP n_spec_l2Lines [str s] (.sl false 1 ((linesP s).map str)) := fun h => c_l2Lines s (by omega)
  generalize linesP s = ls at *
  obtain ⟨n, hn⟩ : ∃ n, n = ls.length := ⟨_, rfl⟩
  obtain ⟨ys, hys⟩ : ∃ ys, ys = ls.map str := ⟨_, rfl⟩
  have hyl : ys.length = ls.length := by rw [hys, List.length_map]
  rw [← hys] at hlc
  have hw := c_l2Words
  have hv := fun s h => c_specParseVersion s h
  have hf := fun n v => c_l2Find l n v hl
  have hrd : ∀ (ws : List (List UInt8)), (ws.length ≠ 2 → rdP l ws = -1) ∧ (ws.length = 2 → ∃ a b, ws = [a, b] ∧ rdP l ws = if (verP b).1 = 0 then findF l a (verP b).2 else -1) := fun ws => ⟨rdP_no, fun h => by
    obtain ⟨a, b, rfl⟩ := two_of h
    exact ⟨a, b, rfl, rfl⟩⟩
  have hch := fun (o : List Int) k (h : o.length ≤ 4001) => c_l1Has (sortZ o) k (by rw [sortZ_len]; omega)
  have hput := fun (o : List Int) k (h : o.length ≤ 4001) => c_l3Put (sortZ o) k (by rw [sortZ_len]; omega)
  have hFz : ∀ o : List Int, (F o).map frz = F o := fun o => by rw [← hF.eq, frz_I]
  have hFr : ∀ o : List Int, roFree (.sl true 1 (F o)) = true := fun o => by rw [← hF.eq]; exact roF_I o
  simp only [hF.eq, sortZ_any, ← sortZ_snoc] at hch hput
  unfold encP at *
  generalize l.map (Pck.enc false) = xs at *
  unfold verA at hv
  have hpn : ∀ i o, prsL l [] i o = (0, 0, o) := fun _ _ => rfl
  have hpa := fun (i : Nat) w (o : List Int) (h : ls[i]? = some w) => prsL_at (c := l) (o := o) h
  generalize prsL l = pr at *
  generalize rdP l = rd at *
  have htab := tab
  have hmo := hmo
  refine PCtr.walk tab hΩ fn_spec_l3Parse rfl ?_
  generalize PP = P at *
  cbv
  refine br (fun h => ?_) (fun h => ?_) <;> cbv
  · have h : 4000 < s.length := by have h := gtZt hΩ h; subst hΩ; have h : (4000 : Int) < (s.length : Int) := h; omega
    rw [many h]
    exact fit_nilN 1 2 0
  have h4 : s.length ≤ 4000 := by have h := gtZf hΩ h; subst hΩ; have h : (s.length : Int) ≤ 4000 := h; omega
  have hRg := go (by omega)
  replace hlc := hlc h4
  clear go many
  refine call_share hΩ 3 hlc rfl (fits _) rfl ?_
  cbv
  refine loopX htab hΩ (fun i : Nat × List Int => ⟨[(0, .sl false 8 xs), (4, .pt 0 0 0), (6, .vw 1 0 (Ω.len (F (sortZ i.2)))), (5, .sl false 1 ys), (7, i64 (Ω.int i.1))], 60,
    [some ⟨3, [.agg [i64 0, i64 0, .nil]], true⟩, some ⟨1, F (sortZ i.2), false⟩]⟩) (fun i => i.1 ≤ n ∧ i.2.length ≤ i.1 ∧ R = setR (pr (ls.drop i.1) i.1 i.2).1 (pr (ls.drop i.1) i.1 i.2).2.1 (sortZ (pr (ls.drop i.1) i.1 i.2).2.2)) (fun i => n - i.1) (0, []) ⟨Nat.zero_le _, Nat.le_refl _, hRg⟩
    (Sbs.mk rfl (by dsimp only; rw [sortZ_nil, hF.nil]; rfl) ⟨rfl, rfl, by dsimp only; rw [sortZ_nil, hF.z]; rfl, rfl, zeroI hΩ, trivial⟩) ?_
  rintro ⟨i, o⟩ ⟨hi, hol, hRi⟩
  dsimp only at hi hol hRi ⊢
  have hlo := hF.lo (sortZ o)
  have hle := hF.le (sortZ o)
  have htk := hF.tk (sortZ o)
  have hfz := hFz (sortZ o)
  have hze := hF.eq (sortZ o)
  cbv
  refine br (fun h => ?_) (fun h => ?_) <;> cbv
  · replace h := ltI hΩ h
    obtain ⟨w, hw0⟩ := at_of (cs := ls) (by omega : i < _)
    rw [hpa i w o hw0] at hRi
    have hll := hmem w (List.mem_of_getElem? hw0)
    have hw1 := hw w (by omega)
    have hwl := words_len (s := w)
    have hwm : ∀ v ∈ wordsP w, v.length ≤ 1048575 := fun v hv => by have := words_mem hv; omega
    obtain ⟨hr1, hr2⟩ := hrd (wordsP w)
    have rw1 : roFree (.sl true 1 ((wordsP w).map str)) = true := roF_S _
    have fw1 : frz (.sl true 1 ((wordsP w).map str)) = .sl false 1 ((wordsP w).map str) := by rw [frz_sl, frz_S]
    generalize wordsP w = wl at *
    have hch := hch o (rd wl) (by omega)
    have hput := hput o (rd wl) (by omega)
    have hFr := hFr (sortZ (o ++ [rd wl]))
    generalize rd wl = k at *
    obtain ⟨B, hB⟩ : ∃ B, B = o.any (· == k) := ⟨_, rfl⟩
    have bad : k < 0 ∨ B = true → FitX (.agg [i64 5, i64 (Ω.int i), .nil]) R := fun e => by
      rw [hRi, if_pos (by rw [← hB]; exact e)]
      show FitX _ (.agg [i64 5, i64 (i : Int), .sl true 1 ((sortZ []).map i64)])
      rw [sortZ_nil]
      subst hΩ
      exact fit_nilN 1 5 i
    have good : ¬ k < 0 → B = false → R = setR (pr (ls.drop (i + 1)) (i + 1) (o ++ [k])).1 (pr (ls.drop (i + 1)) (i + 1) (o ++ [k])).2.1 (sortZ (pr (ls.drop (i + 1)) (i + 1) (o ++ [k])).2.2) := fun e1 e2 => by
      rw [if_neg (by rw [← hB, e2]; simp; omega)] at hRi
      exact hRi
    rw [← hB] at hch
    clear hRi hB
    obtain ⟨ws, hws⟩ : ∃ ws, ws = wl.map str := ⟨_, rfl⟩
    have hwsl : Ω.int (Ω.len ws) = (wl.length : Int) := by subst hΩ; show ((ws.length : Nat) : Int) = _; rw [hws, List.length_map]
    have hr1 : Ω.int (Ω.len ws) ≠ 2 → k = -1 := fun h => hr1 (fun h' => h (by rw [hwsl, h']; rfl))
    have hr2 : Ω.int (Ω.len ws) = 2 → ∃ a b, ws[0]? = some (str a) ∧ ws[1]? = some (str b) ∧ b.length ≤ 1048575 ∧ k = if (verP b).1 = 0 then findF l a (verP b).2 else -1 := fun h => by
      obtain ⟨a, b, rfl, e⟩ := hr2 (by rw [hwsl] at h; omega)
      exact ⟨a, b, by rw [hws]; rfl, by rw [hws]; rfl, hwm b (by simp), e⟩
    rw [← hws] at hw1 rw1 fw1
    clear hws hwsl hwm
    refine ⟨⟨nnI hΩ⟩, _, rdI hΩ hys hw0, ?_⟩
    cbv
    refine call_pf hΩ 3 hw1 rfl (fits _) rw1 fw1 rfl ?_
    cbv
    refine br (fun g => ?_) (fun g => ?_) <;> cbv
    · obtain ⟨a, b, h0, h1, hbl, hk⟩ := hr2 (eqZt hΩ g)
      have hv := hv b hbl
      generalize verP b = vp at *
      obtain ⟨kc, va, vb, vc⟩ := vp
      dsimp only at hv hk
      have hf := hf a ⟨va, vb, vc⟩
      generalize findF l a ⟨va, vb, vc⟩ = f at *
      refine ⟨⟨by decide⟩, _, h1, ?_⟩
      cbv
      refine call_pure hΩ 4 hv rfl (fits _) rfl rfl ?_
      cbv
      refine br (fun g => ?_) (fun g => ?_) <;> cbv
      · have g := eqZt hΩ g
        rw [if_pos g] at hk
        subst hk
        refine ⟨VC_drawn htab hΩ hmo (by kernel_rfl) ?_⟩
        cbv
        refine ⟨⟨by decide⟩, _, h0, ?_⟩
        cbv
        refine QCall_pure (k := 4) hf rfl (fits _) rfl ?_
        cbv
        refine br (fun g => ?_) (fun g => ?_) <;> cbv
        · exact bad (.inl (ltZt hΩ g))
        have g := ltZf hΩ g
        refine call_pure hΩ 3 hch (mapO2 (ro_vw rfl hlo hfz) rfl) (fits _) rfl rfl ?_
        cbv
        refine br (fun g' => ?_) (fun g' => ?_) <;> cbv
        · exact bad (.inr (iteB hΩ g'))
        have g' := iteB hΩ g'
        have good := good (by omega) g'
        refine call_pure hΩ 3 hput (mapO2 (ro_vw rfl hlo hfz) rfl) (fits _) hFr rfl ?_
        cbv
        exact ⟨(i + 1, o ++ [k]), ⟨by show i + 1 ≤ n; omega, by simp; omega, good⟩, by show n - (i + 1) < n - i; omega,
          (Sbs.drop (r := 1) rfl).trans ((Sbs.mv (a := 3) (b := 1) rfl rfl (Nat.le_of_ble_eq_true rfl)).trans ((Sbs.cut 2 rfl).trans (Sbs.mk rfl rfl ⟨rfl, rfl, rfl, rfl, incI hΩ (by omega), trivial⟩)))⟩
      · have g := eqZf hΩ g
        rw [if_neg g] at hk
        refine br (fun g => ?_) (fun g => ?_) <;> cbv
        · exact bad (.inl (by omega))
        · have := ltZf hΩ g; omega
    · have hk := hr1 (eqZf hΩ g)
      refine br (fun g => ?_) (fun g => ?_) <;> cbv
      · exact bad (.inl (by omega))
      · have := ltZf hΩ g; omega
  · replace h := geI hΩ h
    have : i = n := by omega
    subst this
    rw [List.drop_of_length_le (by omega), hpn] at hRi
    have hRi : R = setR 0 0 (sortZ o) := hRi
    exact ⟨⟨rfl, hle⟩, .of (by rw [hRi]; show A.agg [i64 0, i64 0, .sl true 1 (Ω.take (Ω.len (F (sortZ o))) (F (sortZ o)))] = A.agg [i64 0, i64 0, .sl true 1 ((sortZ o).map i64)]; rw [htk, hze])⟩
end Go.Proofs.YtidlnilcdmhkiaaGreatDoor

/- Walks: the set of a number. Plain theorems. -/
set_option linter.unusedVariables false
set_option linter.unusedSimpArgs false
namespace Go.Proofs.YtidlnilcdmhkiaaGreatDoor
open Go Go.Fw Go.Sort
set_option maxRecDepth 100000
theorem prsL_ok {c : List Pck} : ∀ {ls : List (List UInt8)} {i : Nat} {o : List Int}, ((prsL c ls i o).1 = 0 → (prsL c ls i o).2.1 = 0) ∧ ((prsL c ls i o).1 ≠ 0 → (prsL c ls i o).2.2 = [])
  | [], i, o => ⟨fun _ => rfl, fun h => absurd rfl h⟩
  | l :: ls, i, o => by
    rw [prsL]
    split
    · exact ⟨fun h => (by cases h), fun _ => rfl⟩
    · exact prsL_ok
theorem prsS_ok {c : List Pck} {s : List UInt8} : ((prsS c s).1 = 0 → (prsS c s).2.1 = 0) ∧ ((prsS c s).1 ≠ 0 → (prsS c s).2.2 = []) := by
  unfold prsS
  split
  · exact ⟨fun h => (by cases h), fun _ => rfl⟩
  · refine ⟨fun h => prsL_ok.1 h, fun h => ?_⟩
    show sortZ _ = []
    rw [prsL_ok.2 h, sortZ_nil]
/-- The set of a number: code, places. -/
def setW (c : List Pck) (l : List Fil) (n : Int) : Int × List Int := if (gensF l).any (· == n) then ((prsS c (datF l (genB n))).1, (prsS c (datF l (genB n))).2.2) else (4, [])
theorem roFI3 (k a : Int) (s : List Int) : roFree (setR k a s) = true := by
  have := roF_I s
  unfold setR
  rw [roFree_agg]
  simp only [List.all_cons, List.all_nil, this]; rfl
theorem c_setOf (c : List Pck) (x : Dsk) (n : Int) (hl : c.length ≤ 1048576) (ho : ∀ o ∈ c, o.Small) (hc : catF c = 0) (hx : x.Ok) : PCtr PP n_impl_setOf [encP c, x.enc false false, i64 n] (.tup [.sl true 1 ((setW c x.f n).2.map i64), i64 (setW c x.f n).1]) := by
  obtain ⟨Ω, hΩ⟩ : ∃ Ω, Ω = std := ⟨_, rfl⟩
  have hcg := c_gens x hx.n hx.p
  have hgl := gensF_len x.f
  have hxn := hx.n
  have hch := c_ContainsI (gensF x.f) n (by omega)
  have hgp : (gensF x.f).any (· == n) = true → PCtr PP n_impl_genPath [i64 n] (str (genB n)) := fun h => by
    obtain ⟨m, hm, he⟩ := List.any_eq_true.1 h
    have := gensF_ge hm
    rw [beq_iff_eq.1 he] at this
    exact c_genPath n this.1 this.2
  have hcd := c_data x (genB n) hx.n hx.o
  have hdl := datF_len hx.d (genB n)
  have hps := c_ParseSet c (datF x.f (genB n)) hl ho hc hdl
  have hr : roFree (setR (prsS c (datF x.f (genB n))).1 (prsS c (datF x.f (genB n))).2.1 (prsS c (datF x.f (genB n))).2.2) = true := roFI3 _ _ _
  unfold setW
  generalize (gensF x.f).any (· == n) = b at *
  generalize prsS c (datF x.f (genB n)) = r at *
  generalize datF x.f (genB n) = d at *
  generalize hasF x.f (genB n) = h at *
  generalize genB n = p at *
  generalize gensF x.f = g at *
  obtain ⟨q, hq⟩ : ∃ q, q = g.map i64 := ⟨_, rfl⟩
  have hqf : roFree (.sl true 1 q) = true := by rw [hq]; exact roF_I g
  have hqz : frz (.sl true 1 q) = .sl false 1 q := by rw [frz_sl, hq, frz_I]
  obtain ⟨ds, hds⟩ : ∃ ds, ds = d.map byteA := ⟨_, rfl⟩
  rw [← hq] at hcg hch
  rw [← hds] at hcd
  obtain ⟨r1, r2, r3⟩ := r
  unfold setR at hps hr
  dsimp only at *
  obtain ⟨ss, hss⟩ : ∃ ss, ss = r3.map i64 := ⟨_, rfl⟩
  rw [← hss] at hps hr
  have hgo : b = true → (if b = true then (r1, r3) else (4, [])) = (r1, r3) := fun h => by rw [h]; rfl
  have hno : b = false → (if b = true then (r1, r3) else ((4 : Int), ([] : List Int))) = (4, []) := fun h => by rw [h]; rfl
  have hle : Ω.len ss ≤ ss.length := by subst hΩ; exact Nat.le_refl _
  have htk : Ω.take (Ω.len ss) ss = ss := takeAll hΩ _
  obtain ⟨W, hW⟩ : ∃ W : Int × List Int, W = if b = true then (r1, r3) else (4, []) := ⟨_, rfl⟩
  have hgo : b = true → A.tup [.sl true 1 (W.2.map i64), i64 W.1] = .tup [.sl true 1 ss, i64 r1] := fun h => by rw [hW, hgo h, hss]
  have hno : b = false → FitX (.tup [.nil, i64 4]) (A.tup [.sl true 1 (W.2.map i64), i64 W.1]) := fun h => by rw [hW, hno h]; exact ⟨2, by simp [fitA, fitA.fitL, i64]⟩
  rw [← hW]
  obtain ⟨R, hR⟩ : ∃ R, R = A.tup [.sl true 1 (W.2.map i64), i64 W.1] := ⟨_, rfl⟩
  rw [← hR] at hgo hno ⊢
  clear hq hW hss hR hgl
  unfold encP Dsk.enc at *
  generalize x.f.map (Fil.enc false) = xs at *
  generalize c.map (Pck.enc false) = cs at *
  generalize x.bg = v1 at *
  generalize x.wr = v2 at *
  generalize x.st = v3 at *
  generalize x.dn = v4 at *
  have htab := tab
  have hmo := hmo
  refine PCtr.walk tab hΩ fn_impl_setOf rfl ?_
  generalize PP = P at *
  cbv
  refine call_pf hΩ 4 hcg rfl (fits _) hqf hqz rfl ?_
  cbv
  refine call_pure hΩ 4 hch rfl (fits _) rfl rfl ?_
  cbv
  refine br (fun k => ?_) (fun k => ?_) <;> cbv
  · exact hno (notA hΩ k)
  have k := notB hΩ k
  rw [hgo k]
  have hgp := hgp k
  refine ⟨VC.sub (VC_plan htab hΩ hmo (.qs [0, 1] (.s 2 (.s 3 (.s 4 (.qs [5, 6] (.s 7 (.s 8 .fin))))))) (by kernel_rfl) ?_) ((Sbs.unlk (r := 0) rfl rfl).trans (Sbs.thaw0 (r := 0) rfl rfl rfl))⟩
  cbv
  refine call_pure hΩ 4 hgp rfl (fits _) rfl rfl ?_
  cbv
  refine call_share hΩ 4 hcd rfl (fits _) rfl ?_
  cbv
  refine ⟨d, hds, ?_⟩
  cbv
  refine call_pure hΩ 4 hps rfl (fits _) hr rfl ?_
  cbv
  refine ⟨VC_drawn htab hΩ hmo (by kernel_rfl) ?_⟩
  cbv
  exact ⟨⟨rfl, hle⟩, .of (by show A.tup [.sl true 1 (Ω.take (Ω.len ss) ss), i64 r1] = _; rw [htk]; rfl)⟩
theorem hasF_mem : ∀ {l : List Fil} {f : Fil}, ordF l → f ∈ l → hasF l f.p = true ∧ plcF l f.p < l.length ∧ l[plcF l f.p]? = some f
  | g :: l, f, ho, hf => by
    obtain ⟨h1, h2⟩ := List.pairwise_cons.1 ho
    rw [hasF_cons, plcF_cons]
    rcases List.mem_cons.1 hf with rfl | hf
    · have hn : ¬ f.p < f.p := List.lt_irrefl _
      rw [if_neg hn, if_neg hn]
      exact ⟨by simp, by simp, rfl⟩
    · have hg := h1 f hf
      obtain ⟨i1, i2, i3⟩ := hasF_mem h2 hf
      rw [if_pos hg, if_pos hg]
      exact ⟨i1, by simpa using i2, i3⟩
theorem gensF_mem {l : List Fil} {n : Int} (h : n ∈ gensF l) : ∃ f ∈ l, f.p = genB n := by
  unfold gensF at h
  obtain ⟨s, hs, rfl⟩ := List.mem_map.1 h
  obtain ⟨hs, hg⟩ := List.mem_filter.1 hs
  obtain ⟨hb, f, hf, rfl⟩ := pathsF_mem hs
  refine ⟨f, hf, ?_⟩
  have h1 := isG_eq hb
  rw [hg] at h1
  have h1 := h1.symm
  simp only [Bool.and_eq_true, decide_eq_true_eq] at h1
  rw [if_neg (by omega)] at h1
  have h2 := h1.2
  unfold genS at h2
  split at h2
  · exact h2.symm
  · have := beg_split hb
    rw [← h2] at this
    simp [genH] at this
/-- What the spec says of a number: code, place 0, places. -/
theorem c_l8Set (c : List Pck) (x : Dsk) (n : Int) (hl : c.length ≤ 1048576) (hx : x.Ok) : PCtr PP n_spec_l8Set [encP c, x.see, i64 n] (setR (setW c x.f n).1 0 (setW c x.f n).2) := by
  obtain ⟨Ω, hΩ⟩ : ∃ Ω, Ω = std := ⟨_, rfl⟩
  have hcg := c_l8Gens x hx.n hx.p
  have hgl := gensF_len x.f
  have hxn := hx.n
  have hch := c_l1Has (gensF x.f) n (by omega)
  have hgp : (gensF x.f).any (· == n) = true → PCtr PP n_spec_GenPath [i64 n] (str (genB n)) := fun h => by
    obtain ⟨m, hm, he⟩ := List.any_eq_true.1 h
    have := gensF_ge hm
    rw [beq_iff_eq.1 he] at this
    exact c_GenPath n this.1 this.2
  have hfd := fnd_of hx.o (genB n)
  have hcd := c_l7Find x (genB n) hx.n
  have hdl := datF_len hx.d (genB n)
  have hps := c_l3Parse c (datF x.f (genB n)) hl hdl
  have hr : roFree (setR (prsS c (datF x.f (genB n))).1 (prsS c (datF x.f (genB n))).2.1 (prsS c (datF x.f (genB n))).2.2) = true := roFI3 _ _ _
  have hpo := prsS_ok (c := c) (s := datF x.f (genB n))
  unfold setW
  have hin : (gensF x.f).any (· == n) = true → hasF x.f (genB n) = true := fun h => by
    obtain ⟨m, hm, he⟩ := List.any_eq_true.1 h
    rw [beq_iff_eq.1 he] at hm
    obtain ⟨f, hf, hp⟩ := gensF_mem hm
    rw [← hp]
    exact (hasF_mem hx.o hf).1
  generalize (gensF x.f).any (· == n) = b at *
  generalize prsS c (datF x.f (genB n)) = r at *
  generalize datF x.f (genB n) = d at *
  generalize hasF x.f (genB n) = h at *
  generalize fndF x.f (genB n) = z at *
  generalize genB n = p at *
  generalize gensF x.f = g at *
  obtain ⟨q, hq⟩ : ∃ q, q = g.map i64 := ⟨_, rfl⟩
  have hqf : roFree (.sl true 1 q) = true := by rw [hq]; exact roF_I g
  have hqz : frz (.sl true 1 q) = .sl false 1 q := by rw [frz_sl, hq, frz_I]
  obtain ⟨ds, hds⟩ : ∃ ds, ds = d.map byteA := ⟨_, rfl⟩
  rw [← hq] at hcg hch
  obtain ⟨f1, f2⟩ := hfd
  rw [← hds] at f2
  have hf := fun hb => f2 (hin hb)
  obtain ⟨r1, r2, r3⟩ := r
  unfold setR at hps hr ⊢
  dsimp only at *
  obtain ⟨ss, hss⟩ : ∃ ss, ss = r3.map i64 := ⟨_, rfl⟩
  rw [← hss] at hps hr
  have hle : Ω.len ss ≤ ss.length := by subst hΩ; exact Nat.le_refl _
  have htk : Ω.take (Ω.len ss) ss = ss := takeAll hΩ _
  obtain ⟨R, hR⟩ : ∃ R, R = A.agg [i64 (if b = true then (r1, r3) else (4, [])).1, i64 0, .sl true 1 ((if b = true then (r1, r3) else (4, [])).2.map i64)] := ⟨_, rfl⟩
  have hok : b = true → r1 = 0 → R = .agg [i64 r1, i64 r2, .sl true 1 ss] := fun h1 h2 => by rw [hR, if_pos h1, hss, hpo.1 h2]
  have hbad : b = true → r1 ≠ 0 → FitX (.agg [i64 r1, i64 0, .nil]) R := fun h1 h2 => by rw [hR, if_pos h1, hpo.2 h2]; exact fit_nilN 1 _ _
  have hno : b = false → FitX (.agg [i64 4, i64 0, .nil]) R := fun h1 => by rw [hR, if_neg (by simp [h1])]; exact fit_nilN 1 _ _
  rw [← hR]
  clear hq hss hR hgl hpo f1 f2 hin
  unfold encP Dsk.see at *
  generalize x.f.map (Fil.enc false) = xs at *
  generalize c.map (Pck.enc false) = cs at *
  generalize x.bg = v1 at *
  generalize x.wr = v2 at *
  generalize x.st = v3 at *
  generalize x.dn = v4 at *
  have htab := tab
  have hmo := hmo
  refine PCtr.walk tab hΩ fn_spec_l8Set rfl ?_
  generalize PP = P at *
  cbv
  refine call_pf hΩ 4 hcg rfl (fits _) hqf hqz rfl ?_
  cbv
  refine call_pure hΩ 4 hch rfl (fits _) rfl rfl ?_
  cbv
  refine br (fun k => ?_) (fun k => ?_) <;> cbv
  · exact hno (notA hΩ k)
  have k := notB hΩ k
  replace hgp := hgp k
  obtain ⟨hz, p', hp⟩ := hf k
  replace hok := hok k
  replace hbad := hbad k
  refine ⟨VC_lord htab hΩ hmo [0, 1, 2, 3, 4, 5, 6] (.two 7 (.two 8 (.two 9 (.two 10 (.two 11 (.two 12 (.two 13 (.step 14 (.step 15 .fin)) 14 (.step 13 (.step 15 .fin))) 14 (.step 12 (.step 13 (.step 15 .fin)))) 14 (.step 11 (.step 12 (.step 13 (.step 15 .fin))))) 14 (.step 10 (.step 11 (.step 12 (.step 13 (.step 15 .fin)))))) 14 (.step 9 (.step 10 (.step 11 (.step 12 (.step 13 (.step 15 .fin))))))) 14 (.step 8 (.step 9 (.step 10 (.step 11 (.step 12 (.step 13 (.step 15 .fin)))))))) 14 (.step 7 (.step 8 (.step 9 (.step 10 (.step 11 (.step 12 (.step 13 (.step 15 .fin))))))))) [] [] (by kernel_rfl) ?_⟩
  cbv
  intro vs
  cbv
  repeat' (first
    | (refine call_pure hΩ 4 hgp rfl (fits _) rfl rfl ?_; cbv)
    | (refine call_pure hΩ 4 hcd rfl (fits _) rfl rfl ?_; cbv)
    | (refine ⟨⟨hz⟩, _, hp, ?_⟩; cbv)
    | (refine ⟨d, hds, ?_⟩; cbv)
    | (refine call_pure hΩ 4 hps rfl (fits _) hr rfl ?_; cbv)
    | (refine br (fun hh => ?_) (fun hh => ?_) <;> cbv)
    | (refine And.intro ?_ ?_ <;> cbv))
  all_goals (first
    | exact hbad (neZt hΩ hh)
    | exact ⟨rfl, hle⟩
    | (rw [hok (neZf hΩ hh)]; exact .of (by show A.agg [i64 r1, i64 r2, .sl true 1 (Ω.take (Ω.len ss) ss)] = _; rw [htk])))
end Go.Proofs.YtidlnilcdmhkiaaGreatDoor

/- The library's sort and compaction of strings, as contracts. Plain theorems. -/
set_option linter.unusedVariables false
set_option linter.unusedSimpArgs false
namespace Go.Proofs
open Go.Shelf
def Tryz.sortS_ren : Go.Shelf.Ren := ⟨fun | 6 => 124 | 8 => 168 | 9 => 167 | 19 => 199 | 20 => 200 | 21 => 190 | 22 => 191 | 23 => 192 | 24 => 193 | 25 => 194 | 26 => 195 | 27 => 196 | 28 => 197 | 29 => 198 | 36 => 223 | 31 => 224 | 32 => 225 | 37 => 226 | 38 => 227 | 39 => 228 | 41 => 242 | n => n, fun | 27 => 53 | 29 => 9 | 3 => 3 | 32 => 171 | 26 => 53 | 0 => 0 | 44 => 205 | 46 => 208 | 4 => 4 | 36 => 222 | 35 => 221 | 41 => 166 | 5 => 5 | 9 => 9 | 53 => 247 | 57 => 251 | 63 => 263 | 64 => 264 | n => n, fun | n => n⟩
theorem Tryz.sortS : Go.Proofs.SlLaysM.n6 Tryz.prog Tryz.sortS_ren where
  mixed := by kernel_rfl
  f6 := ⟨"slices.Sort[[]string,string]", by decide, Tryz.func124.trans (congrArg some (by kernel_rfl))⟩
  f8 := Tryz.func168.trans (congrArg some (by kernel_rfl))
  f9 := ⟨"slices.pdqsortOrdered[string]", by decide, Tryz.func167.trans (congrArg some (by kernel_rfl))⟩
  f19 := Tryz.func199.trans (congrArg some (by kernel_rfl))
  f20 := Tryz.func200.trans (congrArg some (by kernel_rfl))
  f21 := ⟨"slices.insertionSortOrdered[string]", by decide, Tryz.func190.trans (congrArg some (by kernel_rfl))⟩
  f22 := ⟨"slices.heapSortOrdered[string]", by decide, Tryz.func191.trans (congrArg some (by kernel_rfl))⟩
  f23 := ⟨"slices.breakPatternsOrdered[string]", by decide, Tryz.func192.trans (congrArg some (by kernel_rfl))⟩
  f24 := ⟨"slices.choosePivotOrdered[string]", by decide, Tryz.func193.trans (congrArg some (by kernel_rfl))⟩
  f25 := ⟨"slices.reverseRangeOrdered[string]", by decide, Tryz.func194.trans (congrArg some (by kernel_rfl))⟩
  f26 := ⟨"slices.partialInsertionSortOrdered[string]", by decide, Tryz.func195.trans (congrArg some (by kernel_rfl))⟩
  f27 := ⟨"cmp.Less[string]", by decide, Tryz.func196.trans (congrArg some (by kernel_rfl))⟩
  f28 := ⟨"slices.partitionEqualOrdered[string]", by decide, Tryz.func197.trans (congrArg some (by kernel_rfl))⟩
  f29 := ⟨"slices.partitionOrdered[string]", by decide, Tryz.func198.trans (congrArg some (by kernel_rfl))⟩
  f31 := Tryz.func224.trans (congrArg some (by kernel_rfl))
  f32 := Tryz.func225.trans (congrArg some (by kernel_rfl))
  f36 := ⟨"slices.siftDownOrdered[string]", by decide, Tryz.func223.trans (congrArg some (by kernel_rfl))⟩
  f37 := ⟨"slices.medianAdjacentOrdered[string]", by decide, Tryz.func226.trans (congrArg some (by kernel_rfl))⟩
  f38 := ⟨"slices.medianOrdered[string]", by decide, Tryz.func227.trans (congrArg some (by kernel_rfl))⟩
  f39 := ⟨"cmp.isNaN[string]", by decide, Tryz.func228.trans (congrArg some (by kernel_rfl))⟩
  f41 := ⟨"slices.order2Ordered[string]", by decide, Tryz.func242.trans (congrArg some (by kernel_rfl))⟩
  t0 := Tryz.underlying0
  a0 := Tryz.isAgg0
  z0 := Tryz.sizeOf0
  v0 := Tryz.zeroValue0
  t3 := Tryz.underlying3
  a3 := Tryz.isAgg3
  z3 := Tryz.sizeOf3
  v3 := Tryz.zeroValue3
  t4 := Tryz.underlying4
  a4 := Tryz.isAgg4
  z4 := Tryz.sizeOf4
  v4 := Tryz.zeroValue4
  t5 := Tryz.underlying5
  a5 := Tryz.isAgg5
  z5 := Tryz.sizeOf5
  v5 := Tryz.zeroValue5
  t9 := Tryz.underlying9
  a9 := Tryz.isAgg9
  z9 := Tryz.sizeOf9
  v9 := Tryz.zeroValue9
  t26 := Tryz.underlying53
  a26 := Tryz.isAgg53
  z26 := Tryz.sizeOf53
  v26 := Tryz.zeroValue53
  t27 := Tryz.underlying53
  a27 := Tryz.isAgg53
  z27 := Tryz.sizeOf53
  v27 := Tryz.zeroValue53
  t29 := Tryz.underlying9
  a29 := Tryz.isAgg9
  z29 := Tryz.sizeOf9
  v29 := Tryz.zeroValue9
  t32 := Tryz.underlying171
  a32 := Tryz.isAgg171
  z32 := Tryz.sizeOf171
  v32 := Tryz.zeroValue171
  t35 := Tryz.underlying221
  a35 := Tryz.isAgg221
  z35 := Tryz.sizeOf221
  v35 := Tryz.zeroValue221
  t36 := Tryz.underlying222
  a36 := Tryz.isAgg222
  z36 := Tryz.sizeOf222
  v36 := Tryz.zeroValue222
  t41 := Tryz.underlying166
  a41 := Tryz.isAgg166
  z41 := Tryz.sizeOf166
  v41 := Tryz.zeroValue166
  t44 := Tryz.underlying205
  a44 := Tryz.isAgg205
  z44 := Tryz.sizeOf205
  v44 := Tryz.zeroValue205
  t46 := Tryz.underlying208
  a46 := Tryz.isAgg208
  z46 := Tryz.sizeOf208
  v46 := Tryz.zeroValue208
  t53 := Tryz.underlying247
  a53 := Tryz.isAgg247
  z53 := Tryz.sizeOf247
  v53 := Tryz.zeroValue247
  t57 := Tryz.underlying251
  a57 := Tryz.isAgg251
  z57 := Tryz.sizeOf251
  v57 := Tryz.zeroValue251
  t63 := Tryz.underlying263
  a63 := Tryz.isAgg263
  z63 := Tryz.sizeOf263
  v63 := Tryz.zeroValue263
  t64 := Tryz.underlying264
  a64 := Tryz.isAgg264
  z64 := Tryz.sizeOf264
  v64 := Tryz.zeroValue264

def Tryz.compS_ren : Go.Shelf.Ren := ⟨fun | 44 => 125 | n => n, fun | 25 => 53 | 26 => 9 | 3 => 3 | 4 => 4 | 0 => 0 | n => n, fun | n => n⟩
theorem Tryz.compS : Go.Proofs.SlLaysN.n44 Tryz.prog Tryz.compS_ren where
  mixed := by kernel_rfl
  f44 := ⟨"slices.Compact[[]string,string]", by decide, Tryz.func125.trans (congrArg some (by kernel_rfl))⟩
  t0 := Tryz.underlying0
  a0 := Tryz.isAgg0
  z0 := Tryz.sizeOf0
  v0 := Tryz.zeroValue0
  t3 := Tryz.underlying3
  a3 := Tryz.isAgg3
  z3 := Tryz.sizeOf3
  v3 := Tryz.zeroValue3
  t4 := Tryz.underlying4
  a4 := Tryz.isAgg4
  z4 := Tryz.sizeOf4
  v4 := Tryz.zeroValue4
  t25 := Tryz.underlying53
  a25 := Tryz.isAgg53
  z25 := Tryz.sizeOf53
  v25 := Tryz.zeroValue53
  t26 := Tryz.underlying9
  a26 := Tryz.isAgg9
  z26 := Tryz.sizeOf9
  v26 := Tryz.zeroValue9
  i26 := by kernel_rfl

end Go.Proofs
namespace Go.Proofs.YtidlnilcdmhkiaaGreatDoor
open Go Go.Fw Go.Sort Go.Proofs
theorem relS : ∀ {xs : List (List UInt8)} {w : World} {G : Nat → Prop} {vs : List Value} {F : List Nat}, RelL w G (xs.map str) vs F → vs = xs.map encStr ∧ F = []
  | [], _, _, _, _, h => by cases h; exact ⟨rfl, rfl⟩
  | x :: xs, _, _, _, _, h => by
    cases h with
    | cons h hl =>
      obtain ⟨rfl, rfl⟩ := relS hl
      cases h
      exact ⟨rfl, rfl⟩
theorem ofS {w : World} {G : Nat → Prop} : ∀ (xs : List (List UInt8)), RelL w G (xs.map str) (xs.map encStr) []
  | [] => .nil
  | x :: xs => .cons (F := []) (Fs := []) (.sc rfl) (ofS xs)
theorem flatS (xs : List (List UInt8)) : flat (xs.map str) = xs.map str := by
  induction xs with
  | nil => rfl
  | cons x xs ih => simp only [flat, List.map_cons, List.flatMap_cons] at *; rw [ih]; rfl
/-- The texts in order. -/
def sortS (xs : List (List UInt8)) : List (List UInt8) := xs.mergeSort fun x y => decide (x ≤ y)
theorem c_SortS (xs : List (List UInt8)) (hb : xs.length ≤ 4194304) : MCtr PP n_slices_Sort_L_string_string [.sl true 1 (xs.map str)] (.tup []) [.sl true 1 ((sortS xs).map str)] := by
  have hlen : (sortS xs).length = xs.length := List.length_mergeSort _
  refine ⟨fn_slices_Sort_L_string_string.1, fun w G vs F hG hnd hF hl => ?_⟩
  cases hl with
  | cons h hl =>
    cases hl
    rw [List.append_nil] at *
    generalize hys : xs.map str = ys at h
    cases h with
    | nils =>
      have h0 : xs = [] := by cases xs with
        | nil => rfl
        | cons a b => cases hys
      subst h0
      refine Calls.mono (AnyM.slices_Sort_string_none Tryz.sortS none 0 w) ?_
      rintro e w' ⟨rfl, rfl⟩
      exact ⟨_, [], [], rfl, ⟨rfl, rfl, rfl, Nat.le_refl _, fun _ _ _ => rfl⟩, List.nodup_nil, by simp, .tup .nil, .cons (F := []) (Fs := []) (by rw [show (sortS []).map str = [] by simp [sortS]]; exact .nils) .nil⟩
    | ow hh hw hlen1 hc hl hcap hm hs hv =>
      rename_i b len cap cur e cs F
      subst hys
      rw [flatS] at hl
      obtain ⟨rfl, rfl⟩ := relS hl
      have hl2 : len = xs.length := by rw [hlen1, List.length_map]
      subst hl2
      rw [Nat.mul_one] at hc
      have hH : Holds encStr w b 0 xs.toArray := holds_of_block hh hc.symm
      have hblk : b < w.heap.size := (Array.getElem?_eq_some_iff.1 hh).1
      refine Calls.mono (AnyM.slices_Sort_string Tryz.sortS b 0 cap xs w hH hblk (by omega)) ?_
      rintro e' w' ⟨rfl, n, os, rfl⟩
      have hgr := grownBy_sorted (w := w) (g := b) (n := n) (os := os) (sortS xs).toArray
      have hhp := heap_sorted (n := n) (os := os) (sortS xs).toArray hh
      have hcur : xs.length ≤ cur.size := by rw [hs]; omega
      have htk := take_putCells cur (sortS xs) (by rw [hlen]; exact hcur)
      have hcap' : cur.size = cap := by rw [hs, Nat.mul_one]
      refine ⟨_, [], [b], rfl, ⟨hgr.os, hgr.tape, hgr.output, hgr.size, fun k hk hkF => hgr.block k hk (by simpa using hkF)⟩, by simp, by simp, .tup .nil, ?_⟩
      refine .cons (F := [b]) (Fs := []) (.ow (F := []) hhp ?_ ?_ rfl ?_ hcap hm ?_ ?_) .nil
      · intro x hx; obtain ⟨k, _, rfl⟩ := List.mem_map.1 hx; rfl
      · rw [List.length_map, hlen]
      · rw [flatS, Nat.mul_one, ← hlen, htk]; exact ofS _
      · simp [putCells, hcap']
      · intro v hv
        rw [Nat.mul_one, ← hlen, htk] at hv
        obtain ⟨k, _, rfl⟩ := List.mem_map.1 hv; rfl
/-- Each text once. -/
def compS (xs : List (List UInt8)) : List (List UInt8) := Lib.compact xs
theorem compS_len (xs : List (List UInt8)) : (compS xs).length ≤ xs.length := by
  unfold compS Lib.compact Lib.compactUpTo
  rw [List.length_map]
  exact Nat.le_trans (List.length_filter_le _ _) (by simp)
theorem c_CompactS (xs : List (List UInt8)) (hb : xs.length ≤ 4194304) : ECtr PP n_slices_Compact_L_string_string [.sl true 1 (xs.map str)] (.sl true 1 ((compS xs).map str)) := by
  have hlen := compS_len xs
  refine ⟨fn_slices_Compact_L_string_string.1, fun w G vs F hG hnd hF hl => ?_⟩
  cases hl with
  | cons h hl =>
    cases hl
    rw [List.append_nil] at *
    generalize hys : xs.map str = ys at h
    cases h with
    | nils =>
      have h0 : xs = [] := by cases xs with
        | nil => rfl
        | cons a b => cases hys
      subst h0
      refine Calls.mono (AnyG.slices_Compact_string_empty Tryz.compS none 0 w) ?_
      rintro e w' ⟨rfl, rfl⟩
      exact ⟨_, [], rfl, ⟨rfl, rfl, rfl, Nat.le_refl _, fun _ _ _ => rfl⟩, List.nodup_nil, by simp, by rw [show (compS []).map str = [] by rfl]; exact .nils⟩
    | ow hh hw hlen1 hc hl hcap hm hs hv =>
      rename_i b len cap cur e cs F
      subst hys
      rw [flatS] at hl
      obtain ⟨rfl, rfl⟩ := relS hl
      have hl2 : len = xs.length := by rw [hlen1, List.length_map]
      subst hl2
      rw [Nat.mul_one] at hc
      have hH : Holds encStr w b 0 xs.toArray := holds_of_block hh hc.symm
      have hblk : b < w.heap.size := (Array.getElem?_eq_some_iff.1 hh).1
      refine Calls.mono (AnyG.slices_Compact_string Tryz.compS b 0 cap xs w hH (by omega) hcap) ?_
      rintro e' w' ⟨rfl, n, rfl⟩
      obtain ⟨zs, hzs⟩ : ∃ zs, zs = compS xs ++ List.replicate (xs.length - (compS xs).length) [] := ⟨_, rfl⟩
      have hzl : zs.length = xs.length := by rw [hzs, List.length_append, List.length_replicate]; omega
      have e0 : grow (putRow encStr (Sort.ahead w n) b 0 zs.toArray) #[] = putRow encStr (Sort.ahead w n) b 0 zs.toArray := by simp [grow]; rfl
      have hgr := grownBy_sorted (w := w) (g := b) (n := n) (os := #[]) zs.toArray
      have hhp := heap_sorted (n := n) (os := #[]) zs.toArray hh
      have hcur : xs.length ≤ cur.size := by rw [hs]; omega
      have htk := take_putCells cur zs (by omega)
      have htk2 : (putCells encStr 0 zs.toArray cur).toList.take (compS xs).length = (compS xs).map encStr := by
        have := congrArg (List.take (compS xs).length) htk
        rw [List.take_take, Nat.min_eq_left (by omega)] at this
        rw [this, hzs, List.map_append, List.take_append_of_le_length (by simp), List.take_of_length_le (by simp)]
      have hcap' : cur.size = cap := by rw [hs, Nat.mul_one]
      rw [e0] at hgr hhp
      unfold compS at hzs
      rw [← hzs]
      refine ⟨_, [b], rfl, ⟨hgr.os, hgr.tape, hgr.output, hgr.size, fun k hk hkF => hgr.block k hk (by simpa using hkF)⟩, by simp, by simp, ?_⟩
      refine .ow (F := []) hhp ?_ ?_ rfl ?_ (by show (compS xs).length ≤ cap; omega) hm ?_ ?_
      · intro x hx; obtain ⟨k, _, rfl⟩ := List.mem_map.1 hx; rfl
      · rw [List.length_map]; rfl
      · rw [flatS, Nat.mul_one]; show RelL _ _ _ (List.take (compS xs).length _) _; rw [htk2]; exact ofS _
      · simp [putCells, hcap']
      · intro v hv
        rw [Nat.mul_one] at hv
        have hv : v ∈ (putCells encStr 0 zs.toArray cur).toList.take (compS xs).length := hv
        rw [htk2] at hv
        obtain ⟨k, _, rfl⟩ := List.mem_map.1 hv; rfl
end Go.Proofs.YtidlnilcdmhkiaaGreatDoor

/- Walks: a name put into names that are in order. Plain theorems. -/
set_option linter.unusedVariables false
set_option linter.unusedSimpArgs false
namespace Go.Proofs.YtidlnilcdmhkiaaGreatDoor
open Go Go.Fw Go.Sort
set_option maxRecDepth 100000
/-- How l5Put goes on: what is there, is v in it, what is left. -/
def putGo (v : List UInt8) (l : List (List UInt8)) : List (List UInt8) → Bool → List (List UInt8) → List (List UInt8)
  | o, d, [] => if d then o else o ++ [v]
  | o, d, x :: xs => if x = v then l else if v < x ∧ d = false then putGo v l (o ++ [v] ++ [x]) true xs else putGo v l (o ++ [x]) d xs
def put5 (v : List UInt8) (l : List (List UInt8)) : List (List UInt8) := putGo v l [] false l
theorem putGo_at {v : List UInt8} {l o : List (List UInt8)} {d : Bool} {i : Nat} {x : List UInt8} {xs : List (List UInt8)} (h : xs[i]? = some x) :
    putGo v l o d (xs.drop i) = if x = v then l else if v < x ∧ d = false then putGo v l (o ++ [v] ++ [x]) true (xs.drop (i + 1)) else putGo v l (o ++ [x]) d (xs.drop (i + 1)) := by
  obtain ⟨h1, h2⟩ := List.getElem?_eq_some_iff.1 h
  rw [List.drop_eq_getElem_cons h1, h2, putGo]
theorem gtSB {Ω : Opq} (hΩ : Ω = std) (x y : List UInt8) : Ω.cmpS .gtr x y = decide (y < x) := by
  subst hΩ
  show (!(Op.bytesLess x y || x == y)) = _
  rw [bytesLess_eq, Bool.eq_iff_iff]
  simp only [Bool.not_eq_true', Bool.or_eq_false_iff, decide_eq_false_iff_not, beq_eq_false_iff_ne, decide_eq_true_eq]
  constructor
  · rintro ⟨h1, h2⟩
    exact (List.le_iff_lt_or_eq.1 (List.not_lt.1 h1)).resolve_right fun e => h2 e.symm
  · intro h
    exact ⟨List.not_lt.2 (List.le_iff_lt_or_eq.2 (.inl h)), fun e => by subst e; exact List.lt_irrefl _ h⟩
theorem c_l5Put (l : List (List UInt8)) (v : List UInt8) (hl : l.length ≤ 1048576) : PCtr PP n_spec_l5Put [.sl false 1 (l.map str), str v] (.sl false 1 ((put5 v l).map str)) := by
  obtain ⟨Ω, hΩ⟩ : ∃ Ω, Ω = std := ⟨_, rfl⟩
  obtain ⟨F, hF⟩ : ∃ F : List (List UInt8) → List A, F = fun l => l.map str := ⟨_, rfl⟩
  have hFm : ∀ t : List (List UInt8), t.map str = F t := fun t => by rw [hF]
  have hFz : ∀ t, (F t).map frz = F t := fun t => by rw [hF]; exact frz_S t
  have hlen : ∀ t, (F t).length = t.length := fun t => by rw [hF, List.length_map]
  have hap : ∀ t x, Ω.app (Ω.take (Ω.len (F t)) (F t)) [str x] = F (t ++ [x]) := fun t x => by rw [takeAll hΩ, ← hFm, ← hFm, List.map_append]; subst hΩ; rfl
  have hpl : ∀ t x, Ω.plus (Ω.len (F t)) (Ω.len [str x]) = Ω.len (F (t ++ [x])) := fun t x => by rw [← hap, takeAll hΩ]; subst hΩ; exact (List.length_append).symm
  have hF0 : F [] = [] := by rw [hF]; rfl
  rw [hFm, hFm]
  obtain ⟨r, hr⟩ : ∃ r, r = put5 v l := ⟨_, rfl⟩
  rw [← hr]
  suffices h : RCtr PP n_spec_l5Put [.sl false 1 (F l), str v] fun x => ∃ o, x = .sl o 1 (F r) from RCtr.p (h.frz.mono fun x ⟨y, ⟨o, ho⟩, hx⟩ => by rw [hx, ho, frz_sl, hFz])
  obtain ⟨xs, hxs⟩ : ∃ xs, xs = l.map str := ⟨_, rfl⟩
  have hxl : xs.length = l.length := by rw [hxs, List.length_map]
  rw [← hFm l, ← hxs]
  have htab := tab
  refine RCtr.walk tab hΩ fn_spec_l5Put rfl ?_
  generalize PP = P at *
  cbv
  refine loopX htab hΩ (fun i : Nat × List (List UInt8) × Bool => ⟨[(0, .sl false 1 xs), (1, str v), (5, .vw 0 0 (Ω.len (F i.2.1))), (6, boo i.2.2), (7, i64 (Ω.int i.1))], 50, [some ⟨1, F i.2.1, false⟩]⟩)
    (fun i => i.1 ≤ l.length ∧ i.2.1.length ≤ i.1 + (if i.2.2 then 1 else 0) ∧ r = putGo v l i.2.1 i.2.2 (l.drop i.1)) (fun i => l.length - i.1) (0, [], false) ⟨Nat.zero_le _, Nat.zero_le _, hr⟩
    (Sbs.mk rfl (by dsimp only; rw [hF0]) ⟨rfl, rfl, by dsimp only; rw [hF0]; subst hΩ; rfl, rfl, zeroI hΩ, trivial⟩) ?_
  rintro ⟨i, o, d⟩ ⟨hi, ho, he⟩
  dsimp only at hi ho he
  have hol := hlen o
  have hlo : Ω.len (F o) = (F o).length := by subst hΩ; rfl
  have hle : Ω.len (F o) ≤ (F o).length := by rw [hlo]; exact Nat.le_refl _
  have htk : Ω.take (Ω.len (F o)) (F o) = F o := takeAll hΩ _
  have hob : o.length ≤ 1048577 := by split at ho <;> omega
  have rest : ∀ {X Y : Prop}, X → Y → X ∧ Y := fun h h' => ⟨h, h'⟩
  cbv
  refine br (fun h => ?_) (fun h => ?_) <;> cbv
  · replace h := ltI hΩ h
    obtain ⟨x, hx⟩ := at_of (cs := l) (by omega : i < l.length)
    rw [putGo_at hx] at he
    have hgt := gtSB hΩ x v
    have hap2 := hap (o ++ [v]) x
    have hpl2 := hpl (o ++ [v]) x
    have hap1 := hap o v
    have hpl1 := hpl o v
    have hap0 := hap o x
    have hpl0 := hpl o x
    refine ⟨⟨nnI hΩ⟩, _, rdI hΩ hxs hx, ?_⟩
    cbv
    refine br (fun g => ?_) (fun g => ?_) <;> cbv
    · have g := eqSt hΩ g
      exact ⟨_, ⟨false, rfl⟩, .of (congrArg (A.sl false 1) (by rw [he, if_pos g, hxs, hFm]))⟩
    have g := eqSf hΩ g
    rw [if_neg g] at he
    refine ⟨⟨nnI hΩ⟩, _, rdI hΩ hxs hx, ?_⟩
    cbv
    refine br (fun k => ?_) (fun k => ?_) <;> cbv
    · have k : v < x := by have k : Ω.cmpS .gtr x v = true := k; rw [hgt] at k; exact of_decide_eq_true k
      refine br (fun q => ?_) (fun q => ?_) <;> cbv
      · have q : d = false := notA hΩ (iteA hΩ q)
        rw [if_pos ⟨k, q⟩] at he
        rw [if_neg (by rw [q]; simp)] at ho
        refine ⟨⟨rfl, okAll rfl, by show (Ω.len (F o) + 1) * 16 ≤ 140737488355328; omega, by show Ω.len (F o) + 1 ≤ 9223372036854775807; omega⟩, ?_⟩
        cbv
        refine ⟨⟨nnI hΩ⟩, _, rdI hΩ hxs hx, ?_⟩
        cbv
        have hlv := hlen (o ++ [v])
        rw [List.length_append, List.length_singleton] at hlv
        refine ⟨⟨rfl, okAll rfl, by show (Ω.plus (Ω.len (F o)) (Ω.len [str v]) + 1) * 16 ≤ 140737488355328; rw [hpl1]; subst hΩ; show ((F (o ++ [v])).length + 1) * 16 ≤ _; omega, by show Ω.plus (Ω.len (F o)) (Ω.len [str v]) + 1 ≤ 9223372036854775807; rw [hpl1]; subst hΩ; show (F (o ++ [v])).length + 1 ≤ _; omega⟩,
          (i + 1, o ++ [v] ++ [x], true), ⟨by dsimp only; omega, by simp; omega, he⟩, by dsimp only; omega, (Sbs.cut 1 rfl).trans (Sbs.mk rfl ?_ ⟨rfl, rfl, ?_, rfl, incI hΩ (by omega), trivial⟩)⟩
        · show [some (Row.mk 1 (Ω.app (Ω.take (Ω.plus (Ω.len (F o)) (Ω.len [str v])) (Ω.app (Ω.take (Ω.len (F o)) (F o)) [str v])) [str x]) false)] = _
          rw [hap1, hpl1, hap2]
        · show A.vw 0 0 (Ω.plus (Ω.plus (Ω.len (F o)) (Ω.len [str v])) (Ω.len [str x])) = _
          rw [hpl1, hpl2]
      · have q : d = true := notB hΩ (iteA hΩ q)
        rw [if_neg (by rw [q]; simp)] at he
        rw [if_pos q] at ho
        refine ⟨⟨nnI hΩ⟩, _, rdI hΩ hxs hx, ?_⟩
        cbv
        refine ⟨⟨rfl, okAll rfl, by show (Ω.len (F o) + 1) * 16 ≤ 140737488355328; omega, by show Ω.len (F o) + 1 ≤ 9223372036854775807; omega⟩,
          (i + 1, o ++ [x], d), ⟨by dsimp only; omega, by simp [q]; omega, he⟩, by dsimp only; omega, (Sbs.cut 1 rfl).trans (Sbs.mk rfl (by show [some (Row.mk 1 (Ω.app (Ω.take (Ω.len (F o)) (F o)) [str x]) false)] = _; rw [hap0]) ⟨rfl, rfl, congrArg (A.vw 0 0) hpl0, rfl, incI hΩ (by omega), trivial⟩)⟩
    · have k : ¬ v < x := by have k : Ω.cmpS .gtr x v = false := k; rw [hgt] at k; exact of_decide_eq_false k
      rw [if_neg (fun h => k h.1)] at he
      refine ⟨⟨nnI hΩ⟩, _, rdI hΩ hxs hx, ?_⟩
      cbv
      refine ⟨⟨rfl, okAll rfl, by show (Ω.len (F o) + 1) * 16 ≤ 140737488355328; omega, by show Ω.len (F o) + 1 ≤ 9223372036854775807; omega⟩,
        (i + 1, o ++ [x], d), ⟨by dsimp only; omega, by simp; omega, he⟩, by dsimp only; omega, (Sbs.cut 1 rfl).trans (Sbs.mk rfl (by show [some (Row.mk 1 (Ω.app (Ω.take (Ω.len (F o)) (F o)) [str x]) false)] = _; rw [hap0]) ⟨rfl, rfl, congrArg (A.vw 0 0) hpl0, rfl, incI hΩ (by omega), trivial⟩)⟩
  · replace h := geI hΩ h
    rw [List.drop_of_length_le (by omega), putGo] at he
    have hap1 := hap o v
    have hpl1 := hpl o v
    refine br (fun q => ?_) (fun q => ?_) <;> cbv
    · rw [if_neg (by rw [notA hΩ q]; simp)] at he
      refine ⟨⟨rfl, okAll rfl, by show (Ω.len (F o) + 1) * 16 ≤ 140737488355328; omega, by show Ω.len (F o) + 1 ≤ 9223372036854775807; omega⟩, _, ⟨true, rfl⟩, ⟨rfl, ?_⟩, .of ?_⟩
      · show Ω.plus (Ω.len (F o)) (Ω.len [str v]) ≤ (Ω.app (Ω.take (Ω.len (F o)) (F o)) [str v]).length
        rw [hap1, hpl1]; subst hΩ; exact Nat.le_refl _
      · show A.sl true 1 (Ω.take (Ω.plus (Ω.len (F o)) (Ω.len [str v])) (Ω.app (Ω.take (Ω.len (F o)) (F o)) [str v])) = _
        rw [hap1, hpl1, takeAll hΩ, he]
    · rw [if_pos (notB hΩ q)] at he
      exact ⟨_, ⟨true, rfl⟩, ⟨rfl, hle⟩, .of (by rw [he]; exact congrArg (A.sl true 1) htk)⟩
end Go.Proofs.YtidlnilcdmhkiaaGreatDoor

/- Walks: the names that change, on both sides. Plain theorems. -/
set_option linter.unusedVariables false
set_option linter.unusedSimpArgs false
namespace Go.Proofs.YtidlnilcdmhkiaaGreatDoor
open Go Go.Fw Go.Sort
set_option maxRecDepth 100000
theorem sortS_len (xs : List (List UInt8)) : (sortS xs).length = xs.length := List.length_mergeSort _
theorem c_sorted (xs : List (List UInt8)) (hb : xs.length ≤ 4194304) : ECtr PP n_impl_sorted [.sl true 1 (xs.map str)] (.sl true 1 ((compS (sortS xs)).map str)) := by
  obtain ⟨Ω, hΩ⟩ : ∃ Ω, Ω = std := ⟨_, rfl⟩
  have h1 := c_SortS xs hb
  have h2 := c_CompactS (sortS xs) (by rw [sortS_len]; exact hb)
  obtain ⟨ys, hys⟩ : ∃ ys, ys = (sortS xs).map str := ⟨_, rfl⟩
  obtain ⟨zs, hzs⟩ : ∃ zs, zs = (compS (sortS xs)).map str := ⟨_, rfl⟩
  have hz : roFree (.sl true 1 zs) = true := by rw [hzs]; exact roF_S _
  rw [← hys] at h1 h2
  rw [← hzs] at h2 ⊢
  obtain ⟨xa, hxa⟩ : ∃ xa, xa = xs.map str := ⟨_, rfl⟩
  have hl1 : ys.length = xa.length := by rw [hys, hxa, List.length_map, List.length_map, sortS_len]
  rw [← hxa] at h1 ⊢
  have htab := tab
  refine ECtr.walk tab hΩ 3 fn_impl_sorted rfl rfl ?_
  have hlx : Ω.len xa = xa.length := by subst hΩ; rfl
  have hlz : Ω.len zs ≤ zs.length := by subst hΩ; exact Nat.le_refl _
  have htz : Ω.take (Ω.len zs) zs = zs := takeAll hΩ _
  generalize PP = P at *
  cbv
  refine call_mut hΩ 3 (l := [(0, ys)] ++ []) h1 (.cons (mutVw rfl hlx hl1) .nil) (by simp) rfl ?_
  cbv
  refine call_eat2 (row := ⟨1, ys, false⟩) hΩ 3 h2 rfl rfl (hlx.trans hl1.symm) rfl (fits _) hz rfl ?_
  cbv
  exact ⟨⟨rfl, hlz⟩, .of (congrArg (A.sl true 1) htz)⟩
/-- Does a name change? -/
def chB (c : List Pck) (f t : List Int) (n : List UInt8) : Bool := !decide (nmF c n f = nmF c n t)
def chI (c : List Pck) (f t : List Int) : List (List UInt8) := ((f ++ t).map fun k => (pk c k).n).filter (chB c f t)
def chS (c : List Pck) (f t : List Int) : List (List UInt8) := (c.map Pck.n).foldl (fun o n => if chB c f t n then put5 n o else o) []
theorem c_changed (l : List Pck) (f t : List Int) (hl : l.length ≤ 1048576) (hf : f.length ≤ 1048576) (ht : t.length ≤ 1048576) (hkf : ∀ k ∈ f, inB k 0 ((l.length : Int) - 1) = true) (hkt : ∀ k ∈ t, inB k 0 ((l.length : Int) - 1) = true) :
    PCtr PP n_impl_changed [encP l, .sl false 1 (f.map i64), .sl false 1 (t.map i64)] (.sl true 1 ((compS (sortS (chI l f t))).map str)) := by
  obtain ⟨Ω, hΩ⟩ : ∃ Ω, Ω = std := ⟨_, rfl⟩
  have hat : ∀ k, inB k 0 ((l.length : Int) - 1) = true → 0 ≤ k ∧ ∃ v1 v2 v3 sz ps ds bs, (l.map (Pck.enc false))[k.toNat]? = some (.agg [str (pk l k).n, i64 v1, i64 v2, i64 v3, i64 sz, .sl false 1 ps, .sl false 1 ds, .sl false 7 bs]) := fun k h => by
    obtain ⟨h0, h1, h2, h3⟩ := pk_at h
    obtain ⟨ps, ds, bs, hen, hp, hd, hb⟩ := enc_raw (pk l k)
    exact ⟨h0, _, _, _, _, ps, ds, bs, by rw [List.getElem?_map, h2]; exact congrArg some hen⟩
  have hnf := fun n => c_named l f n hl hf hkf
  have hnt := fun n => c_named l t n hl ht hkt
  obtain ⟨ft, hft⟩ : ∃ ft, ft = f ++ t := ⟨_, rfl⟩
  have hk : ∀ k ∈ ft, inB k 0 ((l.length : Int) - 1) = true := fun k h => by rw [hft] at h; exact (List.mem_append.1 h).elim (hkf k) (hkt k)
  have hfl : ft.length ≤ 2097152 := by rw [hft, List.length_append]; omega
  have hcc := c_ConcatI [f, t] (by simp) (by simp; exact ⟨hf, ht⟩)
  rw [show [f, t].flatten = ft by simp [hft]] at hcc
  obtain ⟨C, hC⟩ : ∃ C : Nat → List (List UInt8), C = fun i => (((ft.take i).map fun k => (pk l k).n).filter (chB l f t)) := ⟨_, rfl⟩
  have hC0 : C 0 = [] := by rw [hC]; rfl
  have hCi : ∀ i k, ft[i]? = some k → C (i + 1) = if chB l f t (pk l k).n then C i ++ [(pk l k).n] else C i := fun i k h => by
    rw [hC]; dsimp only; rw [List.take_add_one, h, List.map_append, List.filter_append]
    cases hb : chB l f t (pk l k).n <;> simp [hb]
  have hCl : ∀ i, (C i).length ≤ i := fun i => by rw [hC]; exact Nat.le_trans (List.length_filter_le _ _) (by simp; omega)
  have hCe : C ft.length = chI l f t := by rw [hC]; dsimp only; rw [List.take_length, hft]; rfl
  rw [← hCe]
  have hso := c_sorted (C ft.length) (by have := hCl ft.length; omega)
  obtain ⟨zs, hzs⟩ : ∃ zs, zs = (compS (sortS (C ft.length))).map str := ⟨_, rfl⟩
  have hz : roFree (.sl true 1 zs) = true := by rw [hzs]; exact roF_S _
  rw [← hzs] at hso ⊢
  obtain ⟨F, hF⟩ : ∃ F : List (List UInt8) → List A, F = fun l => l.map str := ⟨_, rfl⟩
  have hFm : ∀ t : List (List UInt8), t.map str = F t := fun t => by rw [hF]
  have hap : ∀ t x, Ω.app (Ω.take (Ω.len (F t)) (F t)) [str x] = F (t ++ [x]) := fun t x => by rw [takeAll hΩ, ← hFm, ← hFm, List.map_append]; subst hΩ; rfl
  have hpl : ∀ t x, Ω.plus (Ω.len (F t)) (Ω.len [str x]) = Ω.len (F (t ++ [x])) := fun t x => by rw [← hap, takeAll hΩ]; subst hΩ; exact (List.length_append).symm
  have hF0 : F [] = [] := by rw [hF]; rfl
  have hFl : ∀ t, (F t).length = t.length := fun t => by rw [hF, List.length_map]
  rw [hFm] at hso
  obtain ⟨n, hn⟩ : ∃ n, n = ft.length := ⟨_, rfl⟩
  rw [← hn] at hso
  obtain ⟨q, hq⟩ : ∃ q, q = ft.map i64 := ⟨_, rfl⟩
  have hql : q.length = ft.length := by rw [hq, List.length_map]
  have hqq := hq
  have hqf : roFree (.sl true 1 q) = true := by rw [hq]; exact roF_I ft
  have hqz : frz (.sl true 1 q) = .sl false 1 q := by rw [frz_sl, hq, frz_I]
  rw [← hq] at hcc
  obtain ⟨fa, hfa⟩ : ∃ fa, fa = f.map i64 := ⟨_, rfl⟩
  obtain ⟨ta, hta⟩ : ∃ ta, ta = t.map i64 := ⟨_, rfl⟩
  have hcc : PCtr PP n_slices_Concat_L_int64_int64 [.sl false 1 [.sl false 1 fa, .sl false 1 ta]] (.sl true 1 q) := by rw [hfa, hta]; exact hcc
  have hfz : fa.map frz = fa := by rw [hfa]; exact frz_I f
  have htz : ta.map frz = ta := by rw [hta]; exact frz_I t
  have hrow : ∀ {S : State}, Fw.rowAt S.rows 1 = some ⟨1, [.sl false 1 fa, .sl false 1 ta], false⟩ → roO S 3 (.vw 1 0 2) = some (.sl false 1 [.sl false 1 fa, .sl false 1 ta]) := fun h => ro_vw h rfl (by simp [frz_sl, hfz, htz])
  unfold encP at *
  rw [← hfa] at hnf ⊢
  rw [← hta] at hnt ⊢
  generalize l.map (Pck.enc false) = xs at *
  have htab := tab
  have hmo := hmo
  clear hC hzs hfa hta hF hCe hft
  refine PCtr.walk tab hΩ fn_impl_changed rfl ?_
  generalize PP = P at *
  have hlz : Ω.len zs ≤ zs.length := by subst hΩ; exact Nat.le_refl _
  have htkz : Ω.take (Ω.len zs) zs = zs := takeAll hΩ _
  cbv
  refine call_pf hΩ 3 hcc (mapO1 (hrow rfl)) (fits _) hqf hqz rfl ?_
  cbv
  refine loopX htab hΩ (fun i : Nat => ⟨[(0, .sl false 8 xs), (1, .sl false 1 fa), (2, .sl false 1 ta), (7, .vw 0 0 (Ω.len (F (C i)))), (15, .sl false 1 q), (16, i64 (Ω.int (Ω.len q))), (17, i64 (Ω.int i))], 42, [some ⟨1, F (C i), false⟩]⟩) (fun i => i ≤ ft.length) (fun i => ft.length - i) 0 (Nat.zero_le _)
    ((Sbs.cut 1 rfl).trans (Sbs.mk rfl (by dsimp only; rw [hC0, hF0]; rfl) ⟨rfl, rfl, rfl, by dsimp only; rw [hC0, hF0]; subst hΩ; rfl, rfl, rfl, zeroI hΩ, trivial⟩)) (fun i hi => ?_)
  have hCli := hCl i
  have hFli := hFl (C i)
  have hlo : Ω.len (F (C i)) = (F (C i)).length := by subst hΩ; rfl
  have htk : Ω.take (Ω.len (F (C i))) (F (C i)) = F (C i) := takeAll hΩ _
  cbv
  refine br (fun h => ?_) (fun h => ?_) <;> cbv
  · replace h := ltI hΩ h
    obtain ⟨k, hk'⟩ := at_of (cs := ft) (by omega : i < ft.length)
    have hst := hCi i k hk'
    obtain ⟨hc0, v1, v2, v3, sz, ps, ds, bs, hx⟩ := hat k (hk k (List.mem_of_getElem? hk'))
    have hap := hap (C i) (pk l k).n
    have hpl := hpl (C i) (pk l k).n
    unfold chB at hst
    have hnf := hnf (pk l k).n
    have hnt := hnt (pk l k).n
    generalize (pk l k).n = nn at *
    generalize nmF l nn f = a at *
    generalize nmF l nn t = b at *
    refine ⟨⟨nnI hΩ⟩, _, rdI hΩ hqq hk', ?_⟩
    cbv
    refine ⟨⟨hc0⟩, _, hx, ?_⟩
    cbv
    refine call_pure hΩ 3 hnf rfl (fits _) rfl rfl ?_
    cbv
    refine call_pure hΩ 3 hnt rfl (fits _) rfl rfl ?_
    cbv
    refine br (fun g => ?_) (fun g => ?_) <;> cbv
    · have g := neZt hΩ g
      rw [decide_eq_false g, Bool.not_false, if_pos rfl] at hst
      refine ⟨⟨rfl, okAll rfl, by show (Ω.len (F (C i)) + 1) * 16 ≤ 140737488355328; omega, by show Ω.len (F (C i)) + 1 ≤ 9223372036854775807; omega⟩, i + 1, by omega, by omega,
        (Sbs.cut 1 rfl).trans (Sbs.mk rfl (by show [some (Row.mk 1 (Ω.app (Ω.take (Ω.len (F (C i))) (F (C i))) [str nn]) false)] = _; rw [hap, ← hst]) ⟨rfl, rfl, rfl, by rw [hst]; exact congrArg (A.vw 0 0) hpl, rfl, rfl, incI hΩ (by omega), trivial⟩)⟩
    · have g := neZf hΩ g
      rw [decide_eq_true g, Bool.not_true, if_neg (by simp)] at hst
      exact ⟨i + 1, by omega, by omega, (Sbs.cut 1 rfl).trans (Sbs.mk rfl (by rw [hst]; rfl) ⟨rfl, rfl, rfl, by rw [hst]; rfl, rfl, rfl, incI hΩ (by omega), trivial⟩)⟩
  · replace h := geI hΩ h
    obtain rfl : n = i := by omega
    refine call_eat2 (row := ⟨1, F (C n), false⟩) hΩ 3 hso rfl rfl hlo rfl (fits _) hz rfl ?_
    cbv
    exact ⟨⟨rfl, hlz⟩, .of (congrArg (A.sl true 1) htkz)⟩
theorem foldl_at {α β : Type} {g : β → α → β} {b : β} {xs : List α} {i : Nat} {x : α} (h : xs[i]? = some x) : (xs.drop i).foldl g b = (xs.drop (i + 1)).foldl g (g b x) := by
  obtain ⟨h1, h2⟩ := List.getElem?_eq_some_iff.1 h
  rw [List.drop_eq_getElem_cons h1, h2, List.foldl_cons]
theorem putGo_len {v : List UInt8} {l : List (List UInt8)} : ∀ {xs o : List (List UInt8)} {d : Bool}, l.length + 1 ≤ o.length + xs.length + (if d then 0 else 1) → (putGo v l o d xs).length ≤ o.length + xs.length + (if d then 0 else 1)
  | [], o, d, h => by rw [putGo]; split <;> simp
  | x :: xs, o, d, h => by
    rw [putGo]
    simp only [List.length_cons] at h ⊢
    split
    · omega
    · split
      · rename_i h1 h2
        rw [h2.2] at h ⊢
        have := putGo_len (v := v) (l := l) (xs := xs) (o := o ++ [v] ++ [x]) (d := true) (by simp at h ⊢; omega)
        simp at this ⊢; omega
      · have := putGo_len (v := v) (l := l) (xs := xs) (o := o ++ [x]) (d := d) (by simp at h ⊢; omega)
        simp at this ⊢; omega
theorem put5_len (v : List UInt8) (l : List (List UInt8)) : (put5 v l).length ≤ l.length + 1 := by
  have := putGo_len (v := v) (l := l) (xs := l) (o := []) (d := false) (by simp)
  simpa [put5] using this
theorem c_l5Changed (l : List Pck) (f t : List Int) (hl : l.length ≤ 1048576) (hf : f.length ≤ 1048576) (ht : t.length ≤ 1048576) (hkf : ∀ k ∈ f, inB k 0 ((l.length : Int) - 1) = true) (hkt : ∀ k ∈ t, inB k 0 ((l.length : Int) - 1) = true) :
    PCtr PP n_spec_l5Changed [encP l, .sl false 1 (f.map i64), .sl false 1 (t.map i64)] (.sl false 1 ((chS l f t).map str)) := by
  obtain ⟨Ω, hΩ⟩ : ∃ Ω, Ω = std := ⟨_, rfl⟩
  obtain ⟨r, hr⟩ : ∃ r, r = chS l f t := ⟨_, rfl⟩
  have hnf := fun n => c_l5One l f n hl hf hkf
  have hnt := fun n => c_l5One l t n hl ht hkt
  rw [← hr]
  unfold chS at hr
  obtain ⟨ns, hns⟩ : ∃ ns, ns = l.map Pck.n := ⟨_, rfl⟩
  have hnl : ns.length = l.length := by rw [hns, List.length_map]
  rw [← hns] at hr
  have hat : ∀ (i : Nat) (n : List UInt8), ns[i]? = some n → ∃ v1 v2 v3 sz ps ds bs, (l.map (Pck.enc false))[i]? = some (.agg [str n, i64 v1, i64 v2, i64 v3, i64 sz, .sl false 1 ps, .sl false 1 ds, .sl false 7 bs]) := fun i n h => by
    rw [hns, List.getElem?_map, Option.map_eq_some_iff] at h
    obtain ⟨p, hp, rfl⟩ := h
    obtain ⟨ps, ds, bs, hen, _, _, _⟩ := enc_raw p
    exact ⟨_, _, _, _, ps, ds, bs, by rw [List.getElem?_map, hp]; exact congrArg some hen⟩
  obtain ⟨F, hF⟩ : ∃ F : List (List UInt8) → List A, F = fun l => l.map str := ⟨_, rfl⟩
  have hFm : ∀ t : List (List UInt8), t.map str = F t := fun t => by rw [hF]
  have hF0 : F [] = [] := by rw [hF]; rfl
  have hpt := fun (o : List (List UInt8)) (n : List UInt8) (h : o.length ≤ 1048576) => c_l5Put o n h
  simp only [hFm] at hpt ⊢
  suffices h : RCtr PP n_spec_l5Changed [encP l, .sl false 1 (f.map i64), .sl false 1 (t.map i64)] fun x => x = .sl false 1 (F r) from RCtr.p h
  obtain ⟨fa, hfa⟩ : ∃ fa, fa = f.map i64 := ⟨_, rfl⟩
  obtain ⟨ta, hta⟩ : ∃ ta, ta = t.map i64 := ⟨_, rfl⟩
  unfold encP at *
  rw [← hfa] at hnf ⊢
  rw [← hta] at hnt ⊢
  have hxl : (l.map (Pck.enc false)).length = ns.length := by rw [List.length_map, hnl]
  generalize l.map (Pck.enc false) = xs at *
  clear hfa hta hF
  have htab := tab
  refine RCtr.walk tab hΩ fn_spec_l5Changed rfl ?_
  generalize PP = P at *
  cbv
  refine loopX htab hΩ (fun i : Nat × List (List UInt8) => ⟨[(0, .sl false 8 xs), (1, .sl false 1 fa), (2, .sl false 1 ta), (7, .sl false 1 (F i.2)), (8, i64 (Ω.int i.1))], 35, []⟩)
    (fun i => i.1 ≤ ns.length ∧ i.2.length ≤ i.1 ∧ r = (ns.drop i.1).foldl (fun o n => if chB l f t n then put5 n o else o) i.2) (fun i => ns.length - i.1) (0, []) ⟨Nat.zero_le _, Nat.le_refl _, hr⟩
    ((Sbs.thaw (r := 0) rfl rfl).trans ((Sbs.cut 0 rfl).trans (Sbs.mk rfl rfl ⟨rfl, rfl, rfl, by dsimp only; rw [hF0]; rfl, zeroI hΩ, trivial⟩))) ?_
  rintro ⟨i, o⟩ ⟨hi, ho, he⟩
  dsimp only at hi ho he
  cbv
  refine br (fun h => ?_) (fun h => ?_) <;> cbv
  · replace h := ltI hΩ h
    obtain ⟨n, hx⟩ := at_of (cs := ns) (by omega : i < ns.length)
    rw [foldl_at hx] at he
    obtain ⟨v1, v2, v3, sz, ps, ds, bs, hx⟩ := hat i n hx
    have hpt := hpt o n (by omega)
    have hpl := put5_len n o
    have hnf := hnf n
    have hnt := hnt n
    rw [show chB l f t n = !decide (nmF l n f = nmF l n t) from rfl] at he
    generalize nmF l n f = a at *
    generalize nmF l n t = b at *
    generalize put5 n o = o' at *
    refine ⟨⟨nnI hΩ⟩, _, rdJ hΩ hx, ?_⟩
    cbv
    refine call_pure hΩ 3 hnf rfl (fits _) rfl rfl ?_
    cbv
    refine call_pure hΩ 3 hnt rfl (fits _) rfl rfl ?_
    cbv
    refine br (fun g => ?_) (fun g => ?_) <;> cbv
    · have g := neZt hΩ g
      rw [decide_eq_false g, Bool.not_false, if_pos rfl] at he
      refine call_share hΩ 3 hpt rfl (fits _) rfl ?_
      cbv
      exact ⟨(i + 1, o'), ⟨by dsimp only; omega, by dsimp only; omega, he⟩, by dsimp only; omega, Sbs.mk rfl rfl ⟨rfl, rfl, rfl, rfl, incI hΩ (by omega), trivial⟩⟩
    · have g := neZf hΩ g
      rw [decide_eq_true g, Bool.not_true, if_neg (by simp)] at he
      exact ⟨(i + 1, o), ⟨by dsimp only; omega, by dsimp only; omega, he⟩, by dsimp only; omega, Sbs.mk rfl rfl ⟨rfl, rfl, rfl, rfl, incI hΩ (by omega), trivial⟩⟩
  · replace h := geI hΩ h
    rw [List.drop_of_length_le (by omega)] at he
    exact ⟨_, rfl, .of (by rw [he]; rfl)⟩
end Go.Proofs.YtidlnilcdmhkiaaGreatDoor

/- Lists in strict order: what compaction of a sorted list gives, and what put5 keeps. Plain theorems, no program. -/
set_option linter.unusedVariables false
set_option linter.unusedSimpArgs false
namespace Go.Proofs.YtidlnilcdmhkiaaGreatDoor
open Go Go.Fw Go.Sort Go.Lib
theorem strict_ext {α : Type} [LT α] (irr : ∀ a : α, ¬ a < a) (tr : ∀ a b c : α, a < b → b < c → a < c) : ∀ {a b : List α}, a.Pairwise (· < ·) → b.Pairwise (· < ·) → (∀ x, x ∈ a ↔ x ∈ b) → a = b
  | [], [], _, _, _ => rfl
  | [], y :: b, _, _, h => by have := (h y).2 (by simp); cases this
  | x :: a, [], _, _, h => by have := (h x).1 (by simp); cases this
  | x :: a, y :: b, ha, hb, h => by
    rw [List.pairwise_cons] at ha hb
    have e : x = y := by
      rcases List.mem_cons.1 ((h x).1 (by simp)) with e | hx
      · exact e
      · rcases List.mem_cons.1 ((h y).2 (by simp)) with e | hy
        · exact e.symm
        · exact absurd (tr _ _ _ (ha.1 y hy) (hb.1 x hx)) (irr _)
    subst e
    rw [strict_ext irr tr ha.2 hb.2 fun z => ⟨fun hz => ?_, fun hz => ?_⟩]
    · rcases List.mem_cons.1 ((h z).1 (by simp [hz])) with rfl | h1
      · exact absurd (ha.1 z hz) (irr z)
      · exact h1
    · rcases List.mem_cons.1 ((h z).2 (by simp [hz])) with rfl | h1
      · exact absurd (hb.1 z hz) (irr z)
      · exact h1
theorem compact_spec {α : Type} [LT α] [Inhabited α] [DecidableEq α] (tr : ∀ a b c : α, a < b → b < c → a < c) {d : Array α} (hs : ∀ i j, i < j → j < d.size → d[i]! < d[j]! ∨ d[i]! = d[j]!) : ∀ m, m ≤ d.size → (compactUpTo d m).Pairwise (· < ·) ∧ (∀ x, x ∈ compactUpTo d m ↔ ∃ j, j < m ∧ x = d[j]!)
  | 0, _ => by simp [compactUpTo]
  | m + 1, hm => by
    obtain ⟨h1, h2⟩ := compact_spec tr hs m (by omega)
    rw [compactUpTo_succ]
    cases hk : keeps d m with
    | false =>
      unfold keeps at hk
      rw [decide_eq_false_iff_not] at hk
      have h0 : m ≠ 0 := fun e => hk (.inl e)
      have he : d[m]! = d[m - 1]! := Decidable.byContradiction fun e => hk (.inr e)
      rw [if_neg (by simp), List.append_nil]
      refine ⟨h1, fun x => (h2 x).trans ⟨fun ⟨j, hj, e⟩ => ⟨j, by omega, e⟩, fun ⟨j, hj, e⟩ => ?_⟩⟩
      by_cases ej : j = m
      · exact ⟨m - 1, by omega, by rw [e, ej, he]⟩
      · exact ⟨j, by omega, e⟩
    | true =>
      rw [if_pos rfl]
      refine ⟨?_, fun x => ?_⟩
      · rw [List.pairwise_append]
        refine ⟨h1, by simp, fun x hx y hy => ?_⟩
        rw [List.mem_singleton] at hy
        subst hy
        obtain ⟨j, hj, rfl⟩ := (h2 x).1 hx
        unfold keeps at hk
        have hk := of_decide_eq_true hk
        have hne : d[m]! ≠ d[m - 1]! := hk.resolve_left (by omega)
        have hl : d[m - 1]! < d[m]! := (hs (m - 1) m (by omega) (by omega)).resolve_right fun e => hne e.symm
        by_cases e : j = m - 1
        · rw [e]; exact hl
        · rcases hs j (m - 1) (by omega) (by omega) with h | h
          · exact tr _ _ _ h hl
          · rw [h]; exact hl
      · rw [List.mem_append, h2, List.mem_singleton]
        constructor
        · rintro (⟨j, hj, e⟩ | e)
          · exact ⟨j, by omega, e⟩
          · exact ⟨m, by omega, e⟩
        · rintro ⟨j, hj, e⟩
          by_cases ej : j = m
          · exact .inr (by rw [e, ej])
          · exact .inl ⟨j, by omega, e⟩
theorem compact_strict {α : Type} [LT α] [Inhabited α] [DecidableEq α] (tr : ∀ a b c : α, a < b → b < c → a < c) {zs : List α} (hs : zs.Pairwise fun x y => x < y ∨ x = y) : (compact zs).Pairwise (· < ·) ∧ ∀ x, x ∈ compact zs ↔ x ∈ zs := by
  have hg : ∀ j (h : j < zs.length), zs.toArray[j]! = zs[j] := fun j h => by rw [getElem!_pos _ _ (by simpa using h)]; simp
  have h := compact_spec tr (d := zs.toArray) (fun i j hij hj => by
    have hj' : j < zs.length := by simpa using hj
    rw [hg i (by omega), hg j hj']; exact List.pairwise_iff_getElem.1 hs i j (by omega) hj' hij) zs.length (by simp)
  refine ⟨h.1, fun x => (h.2 x).trans ⟨?_, fun hx => ?_⟩⟩
  · rintro ⟨j, hj, rfl⟩; rw [hg j hj]; exact List.getElem_mem hj
  · obtain ⟨j, hj, rfl⟩ := List.mem_iff_getElem.1 hx; exact ⟨j, hj, (hg j hj).symm⟩
theorem ltS_irr (a : List UInt8) : ¬ a < a := List.lt_irrefl a
theorem ltS_tr (a b c : List UInt8) (h : a < b) (h' : b < c) : a < c := List.lt_trans h h'
theorem ltS_tri (a b : List UInt8) : a < b ∨ a = b ∨ b < a := by
  by_cases h : a < b
  · exact .inl h
  · rcases List.le_iff_lt_or_eq.1 (List.not_lt.1 h) with h | h
    · exact .inr (.inr h)
    · exact .inr (.inl h.symm)
theorem sortS_spec (xs : List (List UInt8)) : (compS (sortS xs)).Pairwise (· < ·) ∧ ∀ x, x ∈ compS (sortS xs) ↔ x ∈ xs := by
  have hp : (sortS xs).Pairwise fun x y => x < y ∨ x = y := by
    have := List.pairwise_mergeSort (le := fun x y : List UInt8 => decide (x ≤ y)) (by intro a b c; simp only [decide_eq_true_eq]; exact List.le_trans) (by intro a b; simp only [Bool.or_eq_true, decide_eq_true_eq]; exact List.le_total a b) xs
    exact this.imp fun h => List.le_iff_lt_or_eq.1 (by simpa using h)
  obtain ⟨h1, h2⟩ := compact_strict ltS_tr hp
  exact ⟨h1, fun x => (h2 x).trans (List.mergeSort_perm xs _).mem_iff⟩
theorem putGo_spec {v : List UInt8} {l : List (List UInt8)} : ∀ {xs o : List (List UInt8)} {d : Bool}, (o ++ xs).Pairwise (· < ·) → (d = true → v ∈ o) → (d = false → v ∉ o ∧ (∀ y ∈ o, y < v)) → (∀ x, x ∈ l → x = v ∨ x ∈ o ++ xs) → (∀ x ∈ o ++ xs, x = v ∨ x ∈ l) → l.Pairwise (· < ·) → (v ∈ xs → v ∈ l) →
    (putGo v l o d xs).Pairwise (· < ·) ∧ ∀ x, x ∈ putGo v l o d xs ↔ x = v ∨ x ∈ l
  | [], o, d, h1, h2, h3, h4, h5, h6, h7 => by
    rw [putGo]
    rw [List.append_nil] at h1 h4 h5
    cases d with
    | true => rw [if_pos rfl]; exact ⟨h1, fun x => ⟨h5 x, fun h => h.elim (fun e => e ▸ h2 rfl) fun hx => (h4 x hx).elim (fun e => e ▸ h2 rfl) id⟩⟩
    | false =>
      rw [if_neg (by simp)]
      refine ⟨?_, fun x => ?_⟩
      · rw [List.pairwise_append]; exact ⟨h1, by simp, fun a ha b hb => by rw [List.mem_singleton] at hb; subst hb; exact (h3 rfl).2 a ha⟩
      · rw [List.mem_append, List.mem_singleton]
        exact ⟨fun h => h.elim (h5 x) .inl, fun h => h.elim .inr fun hx => (h4 x hx).elim .inr .inl⟩
  | x :: xs, o, d, h1, h2, h3, h4, h5, h6, h7 => by
    rw [putGo]
    split
    · rename_i e
      have hv : v ∈ l := h7 (by simp [e])
      exact ⟨h6, fun y => ⟨.inr, fun h => h.elim (fun e => e ▸ hv) id⟩⟩
    · rename_i hne
      have ho := (List.pairwise_append.1 h1)
      split
      · rename_i hk
        obtain ⟨hk1, rfl⟩ := hk
        have h3' := h3 rfl
        have hxs := List.pairwise_cons.1 ho.2.1
        refine putGo_spec ?_ (fun _ => by simp) (fun h => by cases h) (fun y hy => ?_) (fun y hy => ?_) h6 (fun h => h7 (by simp [h]))
        · rw [List.append_assoc, List.append_assoc, List.pairwise_append]
          refine ⟨ho.1, ?_, fun a ha b hb => ?_⟩
          · simp only [List.singleton_append, List.pairwise_cons]
            exact ⟨fun b hb => (List.mem_cons.1 hb).elim (fun e => e ▸ hk1) fun hb => ltS_tr _ _ _ hk1 (hxs.1 b hb), hxs⟩
          · simp only [List.singleton_append, List.mem_cons] at hb
            rcases hb with rfl | rfl | hb
            · exact h3'.2 a ha
            · exact ho.2.2 a ha b (by simp)
            · exact ho.2.2 a ha b (by simp [hb])
        · rcases h4 y hy with h | h
          · exact .inl h
          · right; simp at h ⊢; exact h.imp id .inr
        · simp at hy
          rcases hy with hy | hy | hy | hy
          · exact h5 y (by simp [hy])
          · exact .inl hy
          · exact h5 y (by simp [hy])
          · exact h5 y (by simp [hy])
      · rename_i hk
        refine putGo_spec (by simpa using h1) (fun h => by simp [h2 h]) (fun h => ?_) (fun y hy => by simpa using h4 y hy) (fun y hy => h5 y (by simpa using hy)) h6 (fun h => h7 (by simp [h]))
        subst h
        have h3' := h3 rfl
        refine ⟨by simp [h3'.1]; exact fun e => hne e.symm, fun y hy => ?_⟩
        rcases List.mem_append.1 hy with hy | hy
        · exact h3'.2 y hy
        · rw [List.mem_singleton] at hy
          subst hy
          rcases ltS_tri y v with h | h | h
          · exact h
          · exact absurd h hne
          · exact absurd ⟨h, rfl⟩ hk
theorem put5_spec {v : List UInt8} {l : List (List UInt8)} (h : l.Pairwise (· < ·)) : (put5 v l).Pairwise (· < ·) ∧ ∀ x, x ∈ put5 v l ↔ x = v ∨ x ∈ l :=
  putGo_spec (by simpa using h) (fun h => by cases h) (fun _ => by simp) (fun x hx => by simp [hx]) (fun x hx => .inr (by simpa using hx)) h (fun h => h)
theorem foldPut_spec {p : List UInt8 → Bool} : ∀ {ns o : List (List UInt8)}, o.Pairwise (· < ·) → (ns.foldl (fun o n => if p n then put5 n o else o) o).Pairwise (· < ·) ∧ ∀ x, x ∈ ns.foldl (fun o n => if p n then put5 n o else o) o ↔ x ∈ o ∨ (x ∈ ns ∧ p x = true)
  | [], o, h => ⟨h, by simp⟩
  | n :: ns, o, h => by
    rw [List.foldl_cons]
    cases hp : p n with
    | false =>
      obtain ⟨h1, h2⟩ := foldPut_spec (p := p) (ns := ns) h
      refine ⟨h1, fun x => (h2 x).trans ⟨fun h => h.imp id fun h => ⟨by simp [h.1], h.2⟩, fun h => h.imp id fun h => ⟨?_, h.2⟩⟩⟩
      rcases List.mem_cons.1 h.1 with rfl | h1
      · rw [hp] at h; cases h.2
      · exact h1
    | true =>
      obtain ⟨g1, g2⟩ := put5_spec (v := n) h
      obtain ⟨h1, h2⟩ := foldPut_spec (p := p) (ns := ns) g1
      refine ⟨h1, fun x => (h2 x).trans ⟨fun h => ?_, fun h => ?_⟩⟩
      · rcases h with h | h
        · rcases (g2 x).1 h with rfl | h
          · exact .inr ⟨by simp, hp⟩
          · exact .inl h
        · exact .inr ⟨by simp [h.1], h.2⟩
      · rcases h with h | h
        · exact .inl ((g2 x).2 (.inr h))
        · rcases List.mem_cons.1 h.1 with rfl | h1
          · exact .inl ((g2 x).2 (.inl rfl))
          · exact .inr ⟨h1, h.2⟩
theorem nmF_none {c : List Pck} {n : List UInt8} : ∀ {s : List Int}, (∀ k ∈ s, (pk c k).n ≠ n) → nmF c n s = -1
  | [], _ => rfl
  | k :: s, h => by rw [nmF, if_neg (by simpa using h k (by simp))]; exact nmF_none fun k hk => h k (by simp [hk])
/-- Both sides tell the same names. -/
theorem ch_eq {c : List Pck} {f t : List Int} (hf : ∀ k ∈ f, inB k 0 ((c.length : Int) - 1) = true) (ht : ∀ k ∈ t, inB k 0 ((c.length : Int) - 1) = true) : compS (sortS (chI c f t)) = chS c f t := by
  obtain ⟨h1, h2⟩ := sortS_spec (chI c f t)
  obtain ⟨h3, h4⟩ := foldPut_spec (p := chB c f t) (ns := c.map Pck.n) (o := []) (by simp)
  refine strict_ext ltS_irr ltS_tr h1 h3 fun x => (h2 x).trans ((h4 x).trans ?_).symm
  unfold chI
  rw [List.mem_filter]
  simp only [List.not_mem_nil, false_or]
  refine and_congr_left fun hp => ?_
  constructor
  · intro hx
    refine Decidable.byContradiction fun hno => ?_
    have hno : ∀ k ∈ f ++ t, (pk c k).n ≠ x := fun k hk e => hno (List.mem_map.2 ⟨k, hk, e⟩)
    unfold chB at hp
    rw [nmF_none fun k hk => hno k (by simp [hk]), nmF_none fun k hk => hno k (by simp [hk])] at hp
    simp at hp
  · intro hx
    obtain ⟨k, hk, rfl⟩ := List.mem_map.1 hx
    have := (pk_at ((List.mem_append.1 hk).elim (hf k) (ht k))).2.2.2
    exact List.mem_map.2 ⟨_, this, rfl⟩
theorem ch_len {c : List Pck} {f t : List Int} : (chS c f t).length ≤ c.length := by
  unfold chS
  have : ∀ (ns o : List (List UInt8)), (ns.foldl (fun o n => if chB c f t n then put5 n o else o) o).length ≤ o.length + ns.length := by
    intro ns
    induction ns with
    | nil => intro o; simp
    | cons n ns ih =>
      intro o
      rw [List.foldl_cons]
      refine Nat.le_trans (ih _) ?_
      have := put5_len n o
      split <;> simp only [List.length_cons] <;> omega
  have := this (c.map Pck.n) []
  simpa using this
end Go.Proofs.YtidlnilcdmhkiaaGreatDoor

/- Walks: what can be spared. Plain theorems. -/
set_option linter.unusedVariables false
set_option linter.unusedSimpArgs false
namespace Go.Proofs.YtidlnilcdmhkiaaGreatDoor
open Go Go.Fw
set_option maxRecDepth 100000
theorem rise_adj {s : List Int} : ∀ (n i : Nat), s.length - i = n → riseAll s i (s.drop i) = true → ∀ j x y, i ≤ j → 1 ≤ j → s[j - 1]? = some x → s[j]? = some y → x < y
  | 0, i, hn, _, j, x, y, hij, _, _, hy => by
    have := (List.getElem?_eq_some_iff.1 hy).1
    omega
  | n + 1, i, hn, h, j, x, y, hij, h1, hx, hy => by
    have hi : i < s.length := by omega
    rw [riseAll_at (List.getElem?_eq_getElem hi), Bool.and_eq_true] at h
    by_cases hji : j = i
    · subst hji
      have h2 := h.1
      rw [Bool.or_eq_true] at h2
      rcases h2 with h2 | h2
      · have : j = 0 := by simpa using h2
        omega
      · have h3 := of_decide_eq_true h2
        rw [List.getD_eq_getElem?_getD, hx] at h3
        rw [List.getElem?_eq_getElem hi] at hy
        cases hy
        exact h3
    · exact rise_adj n (i + 1) (by omega) h.2 j x y (by omega) h1 hx hy
theorem setF_rise {c : List Pck} {s : List Int} (h : setF c s = 0) : riseAll s 0 (s.drop 0) = true := by
  unfold setF at h
  split at h
  · rename_i h0; exact absurd h h0
  · split at h
    · rename_i h1
      rw [setOk_eq, Bool.and_eq_true] at h1
      exact h1.1
    · simp at h
theorem setF_lt {c : List Pck} {s : List Int} (h : setF c s = 0) : ∀ (d i : Nat) (x y : Int), s[i]? = some x → s[i + d + 1]? = some y → x < y
  | 0, i, x, y, hx, hy => rise_adj _ 0 rfl (setF_rise h) (i + 1) x y (by omega) (by omega) hx hy
  | d + 1, i, x, y, hx, hy => by
    have hlt := (List.getElem?_eq_some_iff.1 hy).1
    obtain ⟨z, hz⟩ : ∃ z, s[i + d + 1]? = some z := ⟨_, List.getElem?_eq_getElem (by omega)⟩
    have h1 := setF_lt h d i x z hx hz
    have h2 := rise_adj _ 0 rfl (setF_rise h) (i + (d + 1) + 1) z y (by omega) (by omega) hz hy
    omega
end Go.Proofs.YtidlnilcdmhkiaaGreatDoor

/- Walks: do all of a set's asks hold? Plain theorems. -/
set_option linter.unusedVariables false
set_option linter.unusedSimpArgs false
namespace Go.Proofs.YtidlnilcdmhkiaaGreatDoor
open Go Go.Fw
set_option maxRecDepth 100000
theorem setF_pw {c : List Pck} {s : List Int} (h : setF c s = 0) : s.Pairwise (· < ·) := by
  rw [List.pairwise_iff_getElem]
  intro i j hi hj hij
  exact setF_lt h (j - i - 1) i _ _ (List.getElem?_eq_getElem hi) (by rw [show i + (j - i - 1) + 1 = j by omega]; exact List.getElem?_eq_getElem hj)
end Go.Proofs.YtidlnilcdmhkiaaGreatDoor

/- What a change of a set keeps. Plain theorems, no program. -/
set_option linter.unusedVariables false
set_option linter.unusedSimpArgs false
namespace Go.Proofs.YtidlnilcdmhkiaaGreatDoor
open Go Go.Fw
theorem idxFrom_spec {α : Type} {p : α → Bool} : ∀ {l : List α} {i : Nat}, 0 ≤ idxFrom p i l → ∃ j o, l[j]? = some o ∧ p o = true ∧ idxFrom p i l = ((i + j : Nat) : Int)
  | [], i, h => by rw [idxFrom] at h; omega
  | x :: l, i, h => by
    rw [idxFrom] at h ⊢
    split
    · rename_i hp; exact ⟨0, x, rfl, hp, by simp⟩
    · rename_i hp
      rw [if_neg hp] at h
      obtain ⟨j, o, h1, h2, h3⟩ := idxFrom_spec h
      exact ⟨j + 1, o, by simpa using h1, h2, by rw [h3]; congr 1; omega⟩
theorem findF_spec {c : List Pck} {n : List UInt8} {v : Ver} (h : 0 ≤ findF c n v) : inB (findF c n v) 0 ((c.length : Int) - 1) = true ∧ (pk c (findF c n v)).n = n ∧ (pk c (findF c n v)).v = v := by
  obtain ⟨j, o, h1, h2, h3⟩ := idxFrom_spec h
  have hj := (List.getElem?_eq_some_iff.1 h1).1
  have e : findF c n v = (j : Int) := by unfold findF idx; rw [h3]; simp
  rw [e]
  have e2 : pk c (j : Int) = o := by
    unfold pk
    rw [List.getD_eq_getElem?_getD, Int.toNat_natCast, h1]; rfl
  rw [e2]
  unfold isP at h2
  simp only [Bool.and_eq_true, beq_iff_eq, decide_eq_true_eq] at h2
  refine ⟨?_, h2.1, h2.2⟩
  simp only [inB, Bool.and_eq_true, decide_eq_true_eq]; omega
/-- A set that is in order, of places, each name once. -/
structure Good (c : List Pck) (s : List Int) : Prop where
  lt : s.Pairwise (· < ·)
  at_ : ∀ k ∈ s, inB k 0 ((c.length : Int) - 1) = true
  nm : s.Pairwise fun a b => (pk c a).n ≠ (pk c b).n
theorem Good.le {c : List Pck} {s : List Int} (h : Good c s) : s.Pairwise (· ≤ ·) := h.lt.imp fun h => by omega
theorem len_bound {L : Int} : ∀ {s : List Int} {lo : Int}, s.Pairwise (· < ·) → (∀ k ∈ s, lo ≤ k ∧ k < L) → (s.length : Int) ≤ max 0 (L - lo)
  | [], lo, _, _ => by simp; omega
  | x :: s, lo, h, hk => by
    rw [List.pairwise_cons] at h
    have h1 := len_bound (lo := x + 1) h.2 fun k hk' => ⟨by have := h.1 k hk'; omega, (hk k (by simp [hk'])).2⟩
    have h2 := hk x (by simp)
    rw [List.length_cons]; omega
theorem Good.len {c : List Pck} {s : List Int} (h : Good c s) : s.length ≤ c.length := by
  have := len_bound (L := (c.length : Int)) (lo := 0) h.lt fun k hk => by
    have := h.at_ k hk
    simp only [inB, Bool.and_eq_true, decide_eq_true_eq] at this; omega
  omega
theorem nmF_no {c : List Pck} {n : List UInt8} : ∀ {s : List Int}, (∀ k ∈ s, 0 ≤ k) → nmF c n s < 0 → ∀ k ∈ s, (pk c k).n ≠ n
  | [], _, _, k, hk => by cases hk
  | x :: s, h0, h, k, hk => by
    rw [nmF] at h
    split at h
    · have := h0 x (by simp); omega
    · rename_i hx
      rcases List.mem_cons.1 hk with rfl | hk
      · intro e; exact hx (by simp [e])
      · exact nmF_no (fun k hk => h0 k (by simp [hk])) h k hk
theorem nmF_name {c : List Pck} {n : List UInt8} : ∀ {s : List Int}, 0 ≤ nmF c n s → (pk c (nmF c n s)).n = n
  | [], h => by rw [nmF] at h; omega
  | x :: s, h => by
    rw [nmF] at h ⊢
    split
    · rename_i hx; simpa using hx
    · rename_i hx; rw [if_neg hx] at h; exact nmF_name h
theorem put3_strict {v : Int} : ∀ {l : List Int}, l.Pairwise (· < ·) → v ∉ l → (put3 v l).Pairwise (· < ·)
  | [], _, _ => by simp [put3]
  | x :: l, h, hv => by
    rw [List.pairwise_cons] at h
    rw [put3]
    split
    · rename_i hlt
      rw [List.pairwise_cons, List.pairwise_cons]
      refine ⟨fun y hy => ?_, h⟩
      rcases List.mem_cons.1 hy with rfl | hy
      · exact hlt
      · have := h.1 y hy; omega
    · rename_i hlt
      rw [List.pairwise_cons]
      have hne : v ≠ x := fun e => hv (by simp [e])
      refine ⟨fun y hy => ?_, put3_strict h.2 fun hm => hv (by simp [hm])⟩
      rcases put3_mem hy with rfl | hy
      · omega
      · exact h.1 y hy
theorem pairwise_name {c : List Pck} : ∀ {s : List Int}, (s.Pairwise fun a b => (pk c a).n ≠ (pk c b).n) → ∀ {a b : Int}, a ∈ s → b ∈ s → a ≠ b → (pk c a).n ≠ (pk c b).n
  | [], _, _, _, ha, _, _ => by cases ha
  | x :: s, h, a, b, ha, hb, hne => by
    rw [List.pairwise_cons] at h
    rcases List.mem_cons.1 ha with rfl | ha'
    · rcases List.mem_cons.1 hb with rfl | hb'
      · exact absurd rfl hne
      · exact h.1 b hb'
    · rcases List.mem_cons.1 hb with rfl | hb'
      · exact (h.1 a ha').symm
      · exact pairwise_name h.2 ha' hb' hne
theorem Good.filter {c : List Pck} {s : List Int} (h : Good c s) (p : Int → Bool) : Good c (s.filter p) := ⟨h.lt.filter _, fun k hk => h.at_ k (List.mem_filter.1 hk).1, h.nm.filter _⟩
theorem Good.put {c : List Pck} {s : List Int} (h : Good c s) {v : Int} (hv : inB v 0 ((c.length : Int) - 1) = true) (hn : ∀ k ∈ s, (pk c k).n ≠ (pk c v).n) : Good c (put3 v s) := by
  have hnot : v ∉ s := fun hm => hn v hm rfl
  refine ⟨put3_strict h.lt hnot, fun k hk => ?_, ?_⟩
  · rcases put3_mem hk with rfl | hk
    · exact hv
    · exact h.at_ k hk
  · refine (put3_perm v s).symm.pairwise ?_ fun hab => Ne.symm hab
    rw [List.pairwise_cons]
    exact ⟨fun k hk => (hn k hk).symm, h.nm⟩
theorem newC_zero {c : List Pck} {s : List Int} {x : Chg} (h : newC c s x = 0) : inB x.k 1 3 = true ∧ (x.k = 1 ∨ (0 ≤ nmF c x.n s ∧ (pk c (nmF c x.n s)).v = x.o)) ∧ (x.k = 2 ∨ 0 ≤ findF c x.n x.w) ∧ (x.k = 1 → nmF c x.n s < 0) := by
  unfold newC at h
  split at h
  · cases h
  · rename_i h1
    split at h
    · cases h
    · rename_i h2
      split at h
      · cases h
      · rename_i h3
        refine ⟨by simpa using h1, ?_, by omega, by omega⟩
        by_cases hk : x.k = 1
        · exact .inl hk
        · refine .inr ⟨by omega, cmpV_zero.1 (by omega)⟩
theorem Good.new {c : List Pck} {s : List Int} {x : Chg} (hg : Good c s) (h : newC c s x = 0) : Good c (newS c s x) := by
  obtain ⟨h1, h2, h3, h4⟩ := newC_zero h
  have h0 : ∀ k ∈ s, 0 ≤ k := fun k hk => (pk_at (hg.at_ k hk)).1
  obtain ⟨a, ha⟩ : ∃ a, a = if x.k = 1 then s else s.filter fun k => !decide (k = nmF c x.n s) := ⟨_, rfl⟩
  have hga : Good c a := by rw [ha]; split <;> first | exact hg | exact hg.filter _
  have hna : ∀ k ∈ a, (pk c k).n ≠ x.n := by
    rw [ha]
    split
    · rename_i hk; exact nmF_no h0 (h4 hk)
    · rename_i hk
      intro k hk'
      obtain ⟨m1, m2⟩ := List.mem_filter.1 hk'
      have hnn := (h2.resolve_left hk).1
      have := pairwise_name hg.nm m1 (nmF_mem hnn) (by simpa using m2)
      rwa [nmF_name hnn] at this
  unfold newS
  dsimp only
  rw [← ha]
  split
  · exact hga
  · rename_i hk
    obtain ⟨f1, f2, f3⟩ := findF_spec (h3.resolve_left hk)
    exact hga.put f1 fun k hk => by rw [f2]; exact hna k hk
theorem twice_false {c : List Pck} {s : List Int} : ∀ (n i : Nat), s.length - i = n → twice c s i (s.drop i) = false → ∀ j k, i ≤ j → s[j]? = some k → twB c s j (pk c k).n = false
  | 0, i, hn, _, j, k, hij, hk => by have := (List.getElem?_eq_some_iff.1 hk).1; omega
  | n + 1, i, hn, h, j, k, hij, hk => by
    have hi : i < s.length := by omega
    rw [twice_at (List.getElem?_eq_getElem hi), Bool.or_eq_false_iff] at h
    by_cases e : j = i
    · subst e
      rw [List.getElem?_eq_getElem hi] at hk
      obtain rfl := Option.some.inj hk
      exact h.1
    · exact twice_false n (i + 1) (by omega) h.2 j k (by omega) hk
theorem twice_true {c : List Pck} {s : List Int} : ∀ (n i : Nat), s.length - i = n → (∀ j k, i ≤ j → s[j]? = some k → twB c s j (pk c k).n = false) → twice c s i (s.drop i) = false
  | 0, i, hn, _ => by rw [List.drop_of_length_le (by omega)]; rfl
  | n + 1, i, hn, h => by
    have hi : i < s.length := by omega
    rw [twice_at (List.getElem?_eq_getElem hi), Bool.or_eq_false_iff]
    exact ⟨h i _ (Nat.le_refl _) (List.getElem?_eq_getElem hi), twice_true n (i + 1) (by omega) fun j k hj => h j k (by omega)⟩
theorem twice_names {c : List Pck} {s : List Int} : twice c s 0 s = false ↔ s.Pairwise fun a b => (pk c a).n ≠ (pk c b).n := by
  have e : twice c s 0 s = twice c s 0 (s.drop 0) := by rw [List.drop_zero]
  rw [e]
  constructor
  · intro h
    rw [List.pairwise_iff_getElem]
    intro i j hi hj hij e
    have := twice_false _ 0 rfl h j _ (Nat.zero_le _) (List.getElem?_eq_getElem hj)
    unfold twB at this
    rw [List.any_eq_false] at this
    refine this s[i] ?_ (by simp [e])
    rw [List.mem_iff_getElem]
    exact ⟨i, by simp; omega, by rw [List.getElem_take]⟩
  · intro h
    refine twice_true _ 0 rfl fun j k _ hk => ?_
    unfold twB
    rw [List.any_eq_false]
    intro o ho he
    obtain ⟨i, hi, rfl⟩ := List.mem_iff_getElem.1 ho
    obtain ⟨hj, rfl⟩ := List.getElem?_eq_some_iff.1 hk
    rw [List.getElem_take] at he
    have hij : i < j := by simp at hi; omega
    exact List.pairwise_iff_getElem.1 h i j (by omega) hj hij (by simpa using he)
theorem apart_all {c : List Pck} {s : List Int} : ∀ {l : List Int}, apart c s l = true ↔ ∀ k ∈ l, nmF c (pk c k).n s = k
  | [] => by simp [apart]
  | x :: l => by rw [apart, Bool.and_eq_true, decide_eq_true_eq, apart_all]; simp
theorem nmF_self {c : List Pck} : ∀ {s : List Int}, (s.Pairwise fun a b => (pk c a).n ≠ (pk c b).n) → ∀ k ∈ s, nmF c (pk c k).n s = k
  | [], _, k, hk => by cases hk
  | x :: s, h, k, hk => by
    rw [List.pairwise_cons] at h
    rw [nmF]
    rcases List.mem_cons.1 hk with rfl | hk
    · simp
    · rw [if_neg (by simpa using h.1 k hk)]; exact nmF_self h.2 k hk
theorem apart_twice {c : List Pck} {s : List Int} (h : s.Pairwise (· < ·)) : apart c s s = !twice c s 0 s := by
  cases ht : twice c s 0 s with
  | false => rw [Bool.not_false, apart_all]; exact nmF_self (twice_names.1 ht)
  | true =>
    rw [Bool.not_true, ← Bool.not_eq_true]
    intro ha
    rw [apart_all] at ha
    have : twice c s 0 s = false := by
      rw [twice_names]
      refine h.imp_of_mem fun {a b} hma hmb hab e => ?_
      have h1 := ha a hma
      have h2 := ha b hmb
      rw [e, h2] at h1
      omega
    rw [this] at ht; cases ht
end Go.Proofs.YtidlnilcdmhkiaaGreatDoor

/- Walks: what is asked of two sets; the changes between them, on both sides. Plain theorems. -/
set_option linter.unusedVariables false
set_option linter.unusedSimpArgs false
namespace Go.Proofs.YtidlnilcdmhkiaaGreatDoor
open Go Go.Fw
set_option maxRecDepth 100000
theorem nmF_ge {c : List Pck} {n : List UInt8} : ∀ {s : List Int}, (∀ k ∈ s, inB k 0 ((c.length : Int) - 1) = true) → -1 ≤ nmF c n s
  | [], _ => by rw [nmF]; omega
  | k :: s, h => by
    rw [nmF]
    split
    · have := (pk_at (h k (by simp))).1; omega
    · exact nmF_ge fun k hk => h k (by simp [hk])
def dltC (c : List Pck) (f t : List Int) : Int := if setF c f ≠ 0 then setF c f else if setF c t ≠ 0 then setF c t else if twice c f 0 f = true ∨ twice c t 0 t = true then 6 else 0
theorem c_deltaCode (l : List Pck) (f t : List Int) (hl : l.length ≤ 1048576) (ho : ∀ o ∈ l, o.Small) (hf : f.length ≤ 1048576) (ht : t.length ≤ 1048576) : PCtr PP n_impl_deltaCode [encP l, .sl false 1 (f.map i64), .sl false 1 (t.map i64)] (i64 (dltC l f t)) := by
  obtain ⟨Ω, hΩ⟩ : ∃ Ω, Ω = std := ⟨_, rfl⟩
  have h1 := c_implSetFault l f hl ho hf
  have h2 := c_implSetFault l t hl ho ht
  have h3 : setF l f = 0 → PCtr PP n_impl_isTwice [encP l, .sl false 1 (f.map i64)] (boo (twice l f 0 f)) := fun h => c_isTwice l f hl hf (setF_in h)
  have h4 : setF l t = 0 → PCtr PP n_impl_isTwice [encP l, .sl false 1 (t.map i64)] (boo (twice l t 0 t)) := fun h => c_isTwice l t hl ht (setF_in h)
  obtain ⟨r, hr⟩ : ∃ r, r = dltC l f t := ⟨_, rfl⟩
  rw [← hr]
  unfold dltC at hr
  obtain ⟨a, ha⟩ : ∃ x, setF l f = x := ⟨_, rfl⟩
  obtain ⟨b, hb⟩ : ∃ x, setF l t = x := ⟨_, rfl⟩
  rw [ha] at h1 h3 hr
  rw [hb] at h2 h4 hr
  have h5 := c_firstCode [a, b] (by simp)
  obtain ⟨k, hk⟩ : ∃ x, orF [a, b] = x := ⟨_, rfl⟩
  have hk' : k = if a ≠ 0 then a else b := by rw [← hk]; by_cases h : a = 0 <;> by_cases h' : b = 0 <;> simp [orF, h, h']
  rw [hk] at h5
  have hro : ∀ {S : State}, Fw.rowAt S.rows 0 = some ⟨1, [i64 a, i64 b], false⟩ → roO S 3 (.vw 0 0 2) = some (.sl false 1 [i64 a, i64 b]) := fun h => ro_vw h rfl rfl
  generalize twice l f 0 f = p at *
  generalize twice l t 0 t = q at *
  unfold encP at *
  generalize l.map (Pck.enc false) = xs at *
  generalize f.map i64 = fa at *
  generalize t.map i64 = ta at *
  clear ha hb hk
  have htab := tab
  refine PCtr.walk tab hΩ fn_impl_deltaCode rfl ?_
  generalize PP = P at *
  cbv
  refine call_pure hΩ 3 h1 rfl (fits _) rfl rfl ?_
  cbv
  refine call_pure hΩ 3 h2 rfl (fits _) rfl rfl ?_
  cbv
  refine call_pure hΩ 3 h5 (mapO1 (hro rfl)) (fits _) rfl rfl ?_
  cbv
  have hk0 : k = 0 → a = 0 ∧ b = 0 := fun h => by rw [hk'] at h; split at h <;> omega
  repeat' (first | (refine br (fun hh => ?_) (fun hh => ?_) <;> (repeat' (first | replace hh := iteA hΩ hh | replace hh := iteB hΩ hh)) <;> (first | replace hh := neZt hΩ hh | replace hh := neZf hΩ hh | replace hh := eqZt hΩ hh | replace hh := eqZf hΩ hh | replace hh := ltZt hΩ hh | replace hh := ltZf hΩ hh | replace hh := geZt hΩ hh | replace hh := geZf hΩ hh | replace hh := gtZt hΩ hh | replace hh := gtZf hΩ hh | replace hh := leZt hΩ hh | replace hh := leZf hΩ hh | replace hh := notA hΩ hh | replace hh := notB hΩ hh | skip) <;> (first | (exfalso; (first | omega | (cases hh; done) | (simp_all; done))) | cbv)) | (refine call_pure hΩ 3 (h3 (hk0 (by omega)).1) rfl (fits _) rfl rfl ?_; cbv) | (refine call_pure hΩ 3 (h4 (hk0 (by omega)).2) rfl (fits _) rfl rfl ?_; cbv))
  all_goals (refine .of (congrArg i64 ?_); clear h1 h2 h3 h4 h5 htab hro; subst hΩ; subst hr; simp_all [std, cmpIS])
  all_goals omega
theorem c_l5Asked (l : List Pck) (f t : List Int) (hl : l.length ≤ 1048576) (ho : ∀ o ∈ l, o.Small) (hf : f.length ≤ 1048576) (ht : t.length ≤ 1048576) : PCtr PP n_spec_l5Asked [encP l, .sl false 1 (f.map i64), .sl false 1 (t.map i64)] (i64 (dltC l f t)) := by
  obtain ⟨Ω, hΩ⟩ : ∃ Ω, Ω = std := ⟨_, rfl⟩
  have h1 := c_specSetFault l f hl ho hf
  have h2 := c_specSetFault l t hl ho ht
  have h3 : setF l f = 0 → PCtr PP n_spec_l5Apart [encP l, .sl false 1 (f.map i64)] (boo (!twice l f 0 f)) := fun h => by
    have := c_l5Apart l f hl hf (setF_in h); rwa [apart_twice (setF_pw h)] at this
  have h4 : setF l t = 0 → PCtr PP n_spec_l5Apart [encP l, .sl false 1 (t.map i64)] (boo (!twice l t 0 t)) := fun h => by
    have := c_l5Apart l t hl ht (setF_in h); rwa [apart_twice (setF_pw h)] at this
  obtain ⟨r, hr⟩ : ∃ r, r = dltC l f t := ⟨_, rfl⟩
  rw [← hr]
  unfold dltC at hr
  generalize setF l f = a at *
  generalize setF l t = b at *
  generalize twice l f 0 f = p at *
  generalize twice l t 0 t = q at *
  obtain ⟨p', hp⟩ : ∃ x, (!p) = x := ⟨_, rfl⟩
  obtain ⟨q', hq⟩ : ∃ x, (!q) = x := ⟨_, rfl⟩
  rw [hp] at h3
  rw [hq] at h4
  unfold encP at *
  generalize l.map (Pck.enc false) = xs at *
  generalize f.map i64 = fa at *
  generalize t.map i64 = ta at *
  have htab := tab
  refine PCtr.walk tab hΩ fn_spec_l5Asked rfl ?_
  generalize PP = P at *
  cbv
  refine call_pure hΩ 3 h1 rfl (fits _) rfl rfl ?_
  cbv
  repeat' (first | (refine br (fun hh => ?_) (fun hh => ?_) <;> (repeat' (first | replace hh := iteA hΩ hh | replace hh := iteB hΩ hh)) <;> (first | replace hh := neZt hΩ hh | replace hh := neZf hΩ hh | replace hh := eqZt hΩ hh | replace hh := eqZf hΩ hh | replace hh := ltZt hΩ hh | replace hh := ltZf hΩ hh | replace hh := geZt hΩ hh | replace hh := geZf hΩ hh | replace hh := gtZt hΩ hh | replace hh := gtZf hΩ hh | replace hh := leZt hΩ hh | replace hh := leZf hΩ hh | replace hh := notA hΩ hh | replace hh := notB hΩ hh | skip) <;> (first | (exfalso; (first | omega | (cases hh; done) | (simp_all; done))) | cbv)) | (refine call_pure hΩ 3 h2 rfl (fits _) rfl rfl ?_; cbv) | (refine call_pure hΩ 3 (h3 (by omega)) rfl (fits _) rfl rfl ?_; cbv) | (refine call_pure hΩ 3 (h4 (by omega)) rfl (fits _) rfl rfl ?_; cbv))
  all_goals (refine .of (congrArg i64 ?_); clear h1 h2 h3 h4 htab; subst hΩ; subst hr; simp_all [std, cmpIS])
/-- What became of a name. -/
def chg (c : List Pck) (f t : List Int) (n : List UInt8) : Chg :=
  ⟨if nmF c n f < 0 then 1 else if nmF c n t < 0 then 2 else 3, n, if nmF c n f < 0 then Ver.zero else (pk c (nmF c n f)).v, if nmF c n t < 0 then Ver.zero else (pk c (nmF c n t)).v⟩
def chgS (c : List Pck) (f t : List Int) : List Chg := (chS c f t).map (chg c f t)
def chgR (k : Int) (g : List Chg) : A := .agg [i64 k, i64 0, .sl true 8 (g.map Chg.enc)]
theorem c_l15Changes (l : List Pck) (f t : List Int) (hl : l.length ≤ 1048576) (hf : f.length ≤ 1048576) (ht : t.length ≤ 1048576) (hkf : ∀ k ∈ f, inB k 0 ((l.length : Int) - 1) = true) (hkt : ∀ k ∈ t, inB k 0 ((l.length : Int) - 1) = true) :
    PCtr PP n_spec_l15Changes [encP l, .sl false 1 (f.map i64), .sl false 1 (t.map i64)] (.sl true 8 ((chgS l f t).map Chg.enc)) := by
  obtain ⟨Ω, hΩ⟩ : ∃ Ω, Ω = std := ⟨_, rfl⟩
  have hat : ∀ (s : List Int) n, (∀ k ∈ s, inB k 0 ((l.length : Int) - 1) = true) → 0 ≤ nmF l n s → ∃ n' v1 v2 v3 sz ps ds bs, (pk l (nmF l n s)).v = ⟨v1, v2, v3⟩ ∧ (l.map (Pck.enc false))[(nmF l n s).toNat]? = some (.agg [str n', i64 v1, i64 v2, i64 v3, i64 sz, .sl false 1 ps, .sl false 1 ds, .sl false 7 bs]) := fun s n hs h => by
    obtain ⟨h0, h1, h2, h3⟩ := pk_at (hs _ (nmF_mem (c := l) (n := n) (s := s) h))
    obtain ⟨ps, ds, bs, hen, hp, hd, hb⟩ := enc_raw (pk l (nmF l n s))
    exact ⟨_, (pk l (nmF l n s)).v.a, (pk l (nmF l n s)).v.b, (pk l (nmF l n s)).v.c, _, ps, ds, bs, rfl, by rw [List.getElem?_map, h2]; exact congrArg some hen⟩
  have hatf := fun n => hat f n hkf
  have hatt := fun n => hat t n hkt
  clear hat
  have hnf := fun n => c_l5One l f n hl hf hkf
  have hnt := fun n => c_l5One l t n hl ht hkt
  have hch := c_l5Changed l f t hl hf ht hkf hkt
  have hcl := ch_len (c := l) (f := f) (t := t)
  unfold chgS
  have hcg : ∀ n ∈ chS l f t, ¬ nmF l n f = nmF l n t ∧ -1 ≤ nmF l n f ∧ -1 ≤ nmF l n t := fun n hn => by
    have := ((foldPut_spec (p := chB l f t) (ns := l.map Pck.n) (o := []) (by simp)).2 n).1 hn
    simp only [List.not_mem_nil, false_or] at this
    refine ⟨?_, nmF_ge hkf, nmF_ge hkt⟩
    have := this.2
    unfold chB at this
    simpa using this
  generalize chS l f t = ns at *
  obtain ⟨C, hC⟩ : ∃ C : Nat → List A, C = fun i => ((ns.take i).map (chg l f t)).map Chg.enc := ⟨_, rfl⟩
  have hC0 : C 0 = [] := by rw [hC]; rfl
  have hCl : ∀ i, (C i).length ≤ i := fun i => by rw [hC]; simp only [List.length_map, List.length_take]; omega
  have hCi : ∀ i n, ns[i]? = some n → Ω.app (Ω.take (Ω.len (C i)) (C i)) [(chg l f t n).enc] = C (i + 1) := fun i n h => by
    rw [takeAll hΩ, hC]; dsimp only; rw [List.take_add_one, h, List.map_append, List.map_append]; subst hΩ; rfl
  have hpl : ∀ i n (x : A), ns[i]? = some n → Ω.plus (Ω.len (C i)) (Ω.len [x]) = Ω.len (C (i + 1)) := fun i n x h => by rw [show Ω.len [x] = Ω.len [(chg l f t n).enc] by subst hΩ; rfl]; rw [← hCi i n h, takeAll hΩ]; subst hΩ; exact (List.length_append).symm
  have hfin : (ns.map (chg l f t)).map Chg.enc = C ns.length := by rw [hC]; dsimp only; rw [List.take_length]
  rw [hfin]
  obtain ⟨m, hm⟩ : ∃ m, m = ns.length := ⟨_, rfl⟩
  rw [← hm]
  obtain ⟨q, hq⟩ : ∃ q, q = ns.map str := ⟨_, rfl⟩
  have hql : q.length = ns.length := by rw [hq, List.length_map]
  have hqz : q.map frz = q := by rw [hq]; exact frz_S _
  rw [← hq] at hch
  unfold chg Chg.enc Chg.cells at hCi
  dsimp only at hCi
  unfold encP at *
  generalize f.map i64 = fa at *
  generalize t.map i64 = ta at *
  generalize l.map (Pck.enc false) = xs at *
  clear hC hfin
  have htab := tab
  refine PCtr.walk tab hΩ fn_spec_l15Changes rfl ?_
  generalize PP = P at *
  cbv
  refine call_share hΩ 3 hch rfl (fits _) rfl ?_
  cbv
  refine loopX htab hΩ (fun i : Nat => ⟨[(0, .sl false 8 xs), (1, .sl false 1 fa), (2, .sl false 1 ta), (7, .vw 0 0 (Ω.len (C i))), (8, .sl false 1 q), (9, i64 (Ω.int i))], 66, [some ⟨8, C i, false⟩]⟩) (fun i => i ≤ ns.length) (fun i => ns.length - i) 0 (Nat.zero_le _)
    (Sbs.mk rfl (by rw [hC0]) ⟨rfl, rfl, rfl, by rw [hC0]; subst hΩ; rfl, rfl, zeroI hΩ, trivial⟩) (fun i hi => ?_)
  have hCli := hCl i
  have hlo : Ω.len (C i) = (C i).length := by subst hΩ; rfl
  have hle : Ω.len (C i) ≤ (C i).length := by rw [hlo]; exact Nat.le_refl _
  have htk : Ω.take (Ω.len (C i)) (C i) = C i := takeAll hΩ _
  cbv
  refine br (fun h => ?_) (fun h => ?_) <;> cbv
  · replace h := ltI hΩ h
    obtain ⟨n, hn⟩ := at_of (cs := ns) (by omega : i < ns.length)
    have hCi := hCi i n hn
    have hpl := fun x => hpl i n x hn
    obtain ⟨hne, hg1, hg2⟩ := hcg n (List.mem_of_getElem? hn)
    have hnf := hnf n
    have hnt := hnt n
    have hatf := hatf n
    have hatt := hatt n
    generalize nmF l n f = a at *
    generalize nmF l n t = b at *
    refine ⟨⟨nnI hΩ⟩, _, rdI hΩ hq hn, ?_⟩
    cbv
    refine call_pure hΩ 3 hnf rfl (fits _) rfl rfl ?_
    cbv
    refine ⟨⟨nnI hΩ⟩, _, rdI hΩ hq hn, ?_⟩
    cbv
    refine call_pure hΩ 3 hnt rfl (fits _) rfl rfl ?_
    cbv
    refine ⟨⟨nnI hΩ⟩, _, rdI hΩ hq hn, ?_⟩
    cbv
    repeat' (first
      | (refine br (fun hh => ?_) (fun hh => ?_) <;> (repeat' (first | replace hh := iteA hΩ hh | replace hh := iteB hΩ hh)) <;> (first | replace hh := neZt hΩ hh | replace hh := neZf hΩ hh | replace hh := eqZt hΩ hh | replace hh := eqZf hΩ hh | replace hh := ltZt hΩ hh | replace hh := ltZf hΩ hh | replace hh := geZt hΩ hh | replace hh := geZf hΩ hh | replace hh := gtZt hΩ hh | replace hh := gtZf hΩ hh | replace hh := leZt hΩ hh | replace hh := leZf hΩ hh | replace hh := notA hΩ hh | replace hh := notB hΩ hh | skip) <;> (first | (exfalso; (first | omega | (cases hh; done) | (simp_all; done))) | cbv))
      | (obtain ⟨n', v1, v2, v3, sz, ps, ds, bs, hv, hx⟩ := hatf (by omega); rw [hv] at hCi; refine ⟨⟨by omega⟩, _, hx, ?_⟩; clear hatf; cbv)
      | (obtain ⟨n', v1, v2, v3, sz, ps, ds, bs, hv, hx⟩ := hatt (by omega); rw [hv] at hCi; refine ⟨⟨by omega⟩, _, hx, ?_⟩; clear hatt; cbv))
    all_goals (first
      | (have e1 : ¬ a < 0 := by omega)
      | (have e1 : a < 0 := by omega))
    all_goals (first
      | (have e2 : ¬ b < 0 := by omega)
      | (have e2 : b < 0 := by omega))
    all_goals simp only [e1, e2, if_true, if_false] at hCi
    all_goals exact ⟨⟨rfl, okAll rfl, by show (Ω.len (C i) + 1) * 72 ≤ 140737488355328; omega, by show Ω.len (C i) + 1 ≤ 9223372036854775807; omega⟩, i + 1, by omega, by omega,
        (Sbs.cut 1 rfl).trans (Sbs.mk rfl (by rw [← hCi]; rfl) ⟨rfl, rfl, rfl, congrArg (A.vw 0 0) (hpl _), rfl, incI hΩ (by omega), trivial⟩)⟩
  · replace h := geI hΩ h
    obtain rfl : m = i := by omega
    exact ⟨⟨rfl, hle⟩, .of (congrArg (A.sl true 8) htk)⟩
end Go.Proofs.YtidlnilcdmhkiaaGreatDoor

/- Walks: ChangesOf on both sides. Plain theorems. -/
set_option linter.unusedVariables false
set_option linter.unusedSimpArgs false
namespace Go.Proofs.YtidlnilcdmhkiaaGreatDoor
open Go Go.Fw
set_option maxRecDepth 100000
theorem dltC_zero {c : List Pck} {f t : List Int} (h : dltC c f t = 0) : setF c f = 0 ∧ setF c t = 0 ∧ twice c f 0 f = false ∧ twice c t 0 t = false := by
  unfold dltC at h
  split at h
  · omega
  · split at h
    · omega
    · split at h
      · cases h
      · rename_i h1 h2 h3
        refine ⟨by omega, by omega, ?_, ?_⟩
        · cases hq : twice c f 0 f
          · rfl
          · exact absurd (.inl hq) h3
        · cases hq : twice c t 0 t
          · rfl
          · exact absurd (.inr hq) h3
def chOf (c : List Pck) (f t : List Int) : List Chg := if dltC c f t = 0 then chgS c f t else []
theorem chOf_len {c : List Pck} {f t : List Int} : (chOf c f t).length ≤ c.length := by
  unfold chOf
  split
  · unfold chgS; rw [List.length_map]; exact ch_len
  · exact Nat.zero_le _
theorem fit_nil8 (k a : Int) : FitX (.agg [i64 k, i64 a, .nil]) (.agg [i64 k, i64 a, .sl true 8 []]) := ⟨2, by simp [fitA, fitA.fitL, i64]⟩
theorem roF_Chgs (cs : List Chg) : roFree (.sl true 8 (cs.map Chg.enc)) = true := roFAll fun x hx => by obtain ⟨c, _, rfl⟩ := List.mem_map.1 hx; rfl
theorem c_specChangesOf (l : List Pck) (f t : List Int) (hl : l.length ≤ 1048576) (ho : ∀ o ∈ l, o.Small) (hf : f.length ≤ 1048576) (ht : t.length ≤ 1048576) :
    PCtr PP n_spec_ChangesOf [encP l, .sl false 1 (f.map i64), .sl false 1 (t.map i64)] (chgR (dltC l f t) (chOf l f t)) := by
  obtain ⟨Ω, hΩ⟩ : ∃ Ω, Ω = std := ⟨_, rfl⟩
  have h1 := c_l5Asked l f t hl ho hf ht
  have h2 := fun h : dltC l f t = 0 => c_l15Changes l f t hl hf ht (setF_in (dltC_zero h).1) (setF_in (dltC_zero h).2.1)
  unfold chgR chOf
  have hr := roF_Chgs (chgS l f t)
  obtain ⟨gs, hgs⟩ : ∃ gs, gs = (chgS l f t).map Chg.enc := ⟨_, rfl⟩
  rw [← hgs] at h2 hr
  obtain ⟨zs, hzs⟩ : ∃ zs, zs = (if dltC l f t = 0 then chgS l f t else []).map Chg.enc := ⟨_, rfl⟩
  rw [← hzs]
  have hz1 : dltC l f t = 0 → zs = gs := fun h => by rw [hzs, if_pos h, hgs]
  have hz2 : dltC l f t ≠ 0 → zs = [] := fun h => by rw [hzs, if_neg h]; rfl
  clear hzs hgs
  generalize dltC l f t = k at *
  unfold encP at *
  generalize f.map i64 = fa at *
  generalize t.map i64 = ta at *
  generalize l.map (Pck.enc false) = xs at *
  have htab := tab
  refine PCtr.walk tab hΩ fn_spec_ChangesOf rfl ?_
  have hlg : Ω.len gs ≤ gs.length := by subst hΩ; exact Nat.le_refl _
  have htg : Ω.take (Ω.len gs) gs = gs := takeAll hΩ _
  generalize PP = P at *
  cbv
  refine call_pure hΩ 3 h1 rfl (fits _) rfl rfl ?_
  cbv
  refine br (fun h => ?_) (fun h => ?_) <;> cbv
  · have h := neZt hΩ h
    rw [hz2 h]; exact fit_nil8 k 0
  · have h := neZf hΩ h
    refine call_pure hΩ 3 (h2 h) rfl (fits _) hr rfl ?_
    cbv
    rw [hz1 h, h]
    exact ⟨⟨rfl, hlg⟩, .of (congrArg (fun q => A.agg [i64 0, i64 0, A.sl true 8 q]) htg)⟩
theorem c_changesOf (l : List Pck) (f t : List Int) (hl : l.length ≤ 1048576) (ho : ∀ o ∈ l, o.Small) (hf : f.length ≤ 1048576) (ht : t.length ≤ 1048576) :
    PCtr PP n_impl_changesOf [encP l, .sl false 1 (f.map i64), .sl false 1 (t.map i64)] (.tup [.sl true 8 ((chOf l f t).map Chg.enc), i64 (dltC l f t)]) := by
  obtain ⟨Ω, hΩ⟩ : ∃ Ω, Ω = std := ⟨_, rfl⟩
  have h1 := c_deltaCode l f t hl ho hf ht
  unfold chOf
  by_cases hD : dltC l f t = 0
  rotate_left
  · rw [if_neg hD]
    generalize dltC l f t = k at *
    unfold encP at *
    generalize f.map i64 = fa at *
    generalize t.map i64 = ta at *
    generalize l.map (Pck.enc false) = xs at *
    have htab := tab
    refine PCtr.walk tab hΩ fn_impl_changesOf rfl ?_
    generalize PP = P at *
    cbv
    refine call_pure hΩ 3 h1 rfl (fits _) rfl rfl ?_
    cbv
    repeat' (first | (refine br (fun hh => ?_) (fun hh => ?_) <;> (repeat' (first | replace hh := iteA hΩ hh | replace hh := iteB hΩ hh)) <;> (first | replace hh := neZt hΩ hh | replace hh := neZf hΩ hh | replace hh := eqZt hΩ hh | replace hh := eqZf hΩ hh | replace hh := ltZt hΩ hh | replace hh := ltZf hΩ hh | replace hh := geZt hΩ hh | replace hh := geZf hΩ hh | replace hh := gtZt hΩ hh | replace hh := gtZf hΩ hh | replace hh := leZt hΩ hh | replace hh := leZf hΩ hh | replace hh := notA hΩ hh | replace hh := notB hΩ hh | skip) <;> (first | (exfalso; (first | omega | (cases hh; done) | (simp_all; done))) | cbv)))
    exact ⟨2, by simp [fitA, fitA.fitL, i64]⟩
  obtain ⟨hF, hT, -, -⟩ := dltC_zero hD
  have hkf := setF_in hF
  have hkt := setF_in hT
  rw [if_pos hD]
  rw [hD] at h1 ⊢
  have hat : ∀ (s : List Int) n, (∀ k ∈ s, inB k 0 ((l.length : Int) - 1) = true) → 0 ≤ nmF l n s → ∃ n' v1 v2 v3 sz ps ds bs, (pk l (nmF l n s)).v = ⟨v1, v2, v3⟩ ∧ (l.map (Pck.enc false))[(nmF l n s).toNat]? = some (.agg [str n', i64 v1, i64 v2, i64 v3, i64 sz, .sl false 1 ps, .sl false 1 ds, .sl false 7 bs]) := fun s n hs h => by
    obtain ⟨h0, h1, h2, h3⟩ := pk_at (hs _ (nmF_mem (c := l) (n := n) (s := s) h))
    obtain ⟨ps, ds, bs, hen, hp, hd, hb⟩ := enc_raw (pk l (nmF l n s))
    exact ⟨_, (pk l (nmF l n s)).v.a, (pk l (nmF l n s)).v.b, (pk l (nmF l n s)).v.c, _, ps, ds, bs, rfl, by rw [List.getElem?_map, h2]; exact congrArg some hen⟩
  have hatf := fun n => hat f n hkf
  have hatt := fun n => hat t n hkt
  clear hat
  have hnf := fun n => c_named l f n hl hf hkf
  have hnt := fun n => c_named l t n hl ht hkt
  have hch := c_changed l f t hl hf ht hkf hkt
  rw [ch_eq hkf hkt] at hch
  have hcl := ch_len (c := l) (f := f) (t := t)
  unfold chgS
  have hcg : ∀ n ∈ chS l f t, ¬ nmF l n f = nmF l n t ∧ -1 ≤ nmF l n f ∧ -1 ≤ nmF l n t := fun n hn => by
    have := ((foldPut_spec (p := chB l f t) (ns := l.map Pck.n) (o := []) (by simp)).2 n).1 hn
    simp only [List.not_mem_nil, false_or] at this
    refine ⟨?_, nmF_ge hkf, nmF_ge hkt⟩
    have := this.2
    unfold chB at this
    simpa using this
  generalize chS l f t = ns at *
  obtain ⟨C, hC⟩ : ∃ C : Nat → List A, C = fun i => ((ns.take i).map (chg l f t)).map Chg.enc := ⟨_, rfl⟩
  have hC0 : C 0 = [] := by rw [hC]; rfl
  have hCl : ∀ i, (C i).length ≤ i := fun i => by rw [hC]; simp only [List.length_map, List.length_take]; omega
  have hCi : ∀ i n, ns[i]? = some n → Ω.app (Ω.take (Ω.len (C i)) (C i)) [(chg l f t n).enc] = C (i + 1) := fun i n h => by
    rw [takeAll hΩ, hC]; dsimp only; rw [List.take_add_one, h, List.map_append, List.map_append]; subst hΩ; rfl
  have hpl : ∀ i n (x : A), ns[i]? = some n → Ω.plus (Ω.len (C i)) (Ω.len [x]) = Ω.len (C (i + 1)) := fun i n x h => by rw [show Ω.len [x] = Ω.len [(chg l f t n).enc] by subst hΩ; rfl]; rw [← hCi i n h, takeAll hΩ]; subst hΩ; exact (List.length_append).symm
  have hfin : (ns.map (chg l f t)).map Chg.enc = C ns.length := by rw [hC]; dsimp only; rw [List.take_length]
  rw [hfin]
  obtain ⟨m, hm⟩ : ∃ m, m = ns.length := ⟨_, rfl⟩
  rw [← hm]
  have hro := roF_S ns
  obtain ⟨q, hq⟩ : ∃ q, q = ns.map str := ⟨_, rfl⟩
  have hql : q.length = ns.length := by rw [hq, List.length_map]
  have hqz : q.map frz = q := by rw [hq]; exact frz_S _
  have hqz' : frz (.sl true 1 q) = .sl false 1 q := by rw [frz_sl, hqz]
  rw [← hq] at hch hro
  unfold chg Chg.enc Chg.cells at hCi
  dsimp only at hCi
  unfold encP at *
  generalize f.map i64 = fa at *
  generalize t.map i64 = ta at *
  generalize l.map (Pck.enc false) = xs at *
  clear hC hfin
  have htab := tab
  have hmo := hmo
  refine PCtr.walk tab hΩ fn_impl_changesOf rfl ?_
  generalize PP = P at *
  cbv
  refine call_pure hΩ 3 h1 rfl (fits _) rfl rfl ?_
  cbv
  refine br (fun h => absurd rfl (neZt hΩ h)) (fun h => ?_)
  cbv
  refine call_pf hΩ 3 hch rfl (fits _) hro hqz' rfl ?_
  cbv
  refine loopX htab hΩ (fun i : Nat => ⟨[(0, .sl false 8 xs), (1, .sl false 1 fa), (2, .sl false 1 ta), (9, .vw 0 0 (Ω.len (C i))), (26, .sl false 1 q), (27, i64 (Ω.int (Ω.len q))), (28, i64 (Ω.int i))], 70, [some ⟨8, C i, false⟩]⟩) (fun i => i ≤ ns.length) (fun i => ns.length - i) 0 (Nat.zero_le _)
    (Sbs.mk rfl (by rw [hC0]) ⟨rfl, rfl, rfl, by rw [hC0]; subst hΩ; rfl, rfl, rfl, zeroI hΩ, trivial⟩) (fun i hi => ?_)
  have hCli := hCl i
  have hlo : Ω.len (C i) = (C i).length := by subst hΩ; rfl
  have hle : Ω.len (C i) ≤ (C i).length := by rw [hlo]; exact Nat.le_refl _
  have htk : Ω.take (Ω.len (C i)) (C i) = C i := takeAll hΩ _
  cbv
  refine br (fun h => ?_) (fun h => ?_) <;> cbv
  · replace h := ltI hΩ h
    obtain ⟨n, hn⟩ := at_of (cs := ns) (by omega : i < ns.length)
    have hCi := hCi i n hn
    have hpl := fun x => hpl i n x hn
    obtain ⟨hne, hg1, hg2⟩ := hcg n (List.mem_of_getElem? hn)
    have hnf := hnf n
    have hnt := hnt n
    have hatf := hatf n
    have hatt := hatt n
    generalize nmF l n f = a at *
    generalize nmF l n t = b at *
    refine ⟨⟨nnI hΩ⟩, _, rdI hΩ hq hn, ?_⟩
    cbv
    refine call_pure hΩ 3 hnf rfl (fits _) rfl rfl ?_
    cbv
    repeat' (first
      | (refine br (fun hh => ?_) (fun hh => ?_) <;> (repeat' (first | replace hh := iteA hΩ hh | replace hh := iteB hΩ hh)) <;> (first | replace hh := neZt hΩ hh | replace hh := neZf hΩ hh | replace hh := eqZt hΩ hh | replace hh := eqZf hΩ hh | replace hh := ltZt hΩ hh | replace hh := ltZf hΩ hh | replace hh := geZt hΩ hh | replace hh := geZf hΩ hh | replace hh := gtZt hΩ hh | replace hh := gtZf hΩ hh | replace hh := leZt hΩ hh | replace hh := leZf hΩ hh | replace hh := notA hΩ hh | replace hh := notB hΩ hh | skip) <;> (first | (exfalso; (first | omega | (cases hh; done) | (simp_all; done))) | cbv))
      | (refine ⟨VC_lord htab hΩ hmo [0, 1, 2, 3, 4, 5] (.step 6 (.step 7 (.step 8 .fin))) [] [] (by kernel_rfl) ?_⟩; cbv)
      | (refine call_pure hΩ 3 hnt rfl (fits _) rfl rfl ?_; clear hnt; cbv)
      | (obtain ⟨n', v1, v2, v3, sz, ps, ds, bs, hv, hx⟩ := hatf (by omega); rw [hv] at hCi; refine ⟨⟨by omega⟩, _, hx, ?_⟩; clear hatf; cbv)
      | (obtain ⟨n', v1, v2, v3, sz, ps, ds, bs, hv, hx⟩ := hatt (by omega); rw [hv] at hCi; refine ⟨⟨by omega⟩, _, hx, ?_⟩; clear hatt; cbv)
      | (intro vs; cbv))
    all_goals (first
      | (have e1 : ¬ a < 0 := by omega)
      | (have e1 : a < 0 := by omega))
    all_goals (first
      | (have e2 : ¬ b < 0 := by omega)
      | (have e2 : b < 0 := by omega))
    all_goals simp only [e1, e2, if_true, if_false] at hCi
    all_goals exact ⟨⟨rfl, okAll rfl, by show (Ω.len (C i) + 1) * 72 ≤ 140737488355328; omega, by show Ω.len (C i) + 1 ≤ 9223372036854775807; omega⟩, i + 1, by omega, by omega,
        (Sbs.cut 1 rfl).trans (Sbs.mk rfl (by rw [← hCi]; rfl) ⟨rfl, rfl, rfl, congrArg (A.vw 0 0) (hpl _), rfl, rfl, incI hΩ (by omega), trivial⟩)⟩
  · replace h := geI hΩ h
    obtain rfl : m = i := by omega
    exact ⟨⟨rfl, hle⟩, .of (congrArg (fun z => A.tup [A.sl true 8 z, i64 0]) htk)⟩
end Go.Proofs.YtidlnilcdmhkiaaGreatDoor

/- Changes make one set of another: plain law, no program. -/
set_option linter.unusedVariables false
set_option linter.unusedSimpArgs false
namespace Go.Proofs.YtidlnilcdmhkiaaGreatDoor
open Go Go.Fw
theorem catFrom_all {c : List Pck} : ∀ (n i : Nat), c.length - i = n → catFrom c i (c.drop i) = 0 → ∀ j x, i ≤ j → c[j]? = some x → packF x = 0 ∧ findF (c.take j) x.n x.v < 0
  | 0, i, hn, _, j, x, hij, hx => by have := (List.getElem?_eq_some_iff.1 hx).1; omega
  | n + 1, i, hn, h, j, x, hij, hx => by
    have hi : i < c.length := by omega
    rw [catFrom_at (List.getElem?_eq_getElem hi)] at h
    split at h
    · omega
    · rename_i h1
      split at h
      · cases h
      · rename_i h2
        by_cases e : j = i
        · subst e
          rw [List.getElem?_eq_getElem hi] at hx
          obtain rfl := Option.some.inj hx
          exact ⟨by omega, by omega⟩
        · exact catFrom_all n (i + 1) (by omega) h j x (by omega) hx
end Go.Proofs.YtidlnilcdmhkiaaGreatDoor

/- Sets that are read: what they are. Plain law, no program. -/
set_option linter.unusedVariables false
set_option linter.unusedSimpArgs false
namespace Go.Proofs.YtidlnilcdmhkiaaGreatDoor
open Go Go.Fw Go.Sort
/-- A sound catalog. -/
theorem cat_ok {c : List Pck} (h : catF c = 0) : c.length ≤ 24 ∧ ∀ o ∈ c, packF o = 0 := by
  unfold catF at h
  split at h
  · cases h
  · refine ⟨by omega, fun o ho => ?_⟩
    obtain ⟨j, hj⟩ := List.mem_iff_getElem?.1 ho
    exact (catFrom_all _ 0 rfl (by rw [List.drop_zero]; exact h) j o (Nat.zero_le _) hj).1
/-- A set that is told: rising, of places. -/
structure Told (c : List Pck) (s : List Int) : Prop where
  lt : s.Pairwise (· < ·)
  at_ : ∀ k ∈ s, inB k 0 ((c.length : Int) - 1) = true
theorem Told.nil {c : List Pck} : Told c [] := ⟨List.Pairwise.nil, by simp⟩
theorem Told.len {c : List Pck} {s : List Int} (h : Told c s) : s.length ≤ c.length := by
  have := len_bound (L := (c.length : Int)) (lo := 0) h.lt fun k hk => by
    have := h.at_ k hk
    simp only [inB, Bool.and_eq_true, decide_eq_true_eq] at this; omega
  omega
theorem rdP_in {c : List Pck} {ws : List (List UInt8)} (h : ¬ rdP c ws < 0) : inB (rdP c ws) 0 ((c.length : Int) - 1) = true := by
  by_cases h2 : ws.length = 2
  · obtain ⟨a, b, rfl⟩ := two_of h2
    rw [rdP] at h ⊢
    split at h
    · rename_i h3; rw [if_pos h3]; exact (findF_spec (by omega)).1
    · omega
  · rw [rdP_no h2] at h; omega
theorem prsL_told {c : List Pck} : ∀ {ls : List (List UInt8)} {i : Nat} {o : List Int}, o.Nodup → (∀ k ∈ o, inB k 0 ((c.length : Int) - 1) = true) → (prsL c ls i o).2.2.Nodup ∧ ∀ k ∈ (prsL c ls i o).2.2, inB k 0 ((c.length : Int) - 1) = true
  | [], i, o, h1, h2 => ⟨h1, h2⟩
  | l :: ls, i, o, h1, h2 => by
    rw [prsL]
    split
    · exact ⟨List.nodup_nil, by simp⟩
    · rename_i h
      have hk := rdP_in (c := c) (ws := wordsP l) fun h' => h (.inl h')
      refine prsL_told ?_ ?_
      · rw [List.nodup_append]
        refine ⟨h1, by simp, fun a ha b hb => ?_⟩
        simp only [List.mem_singleton] at hb
        subst hb
        intro e
        subst e
        exact h (.inr (List.any_eq_true.2 ⟨_, ha, by simp⟩))
      · intro k hk'
        rcases List.mem_append.1 hk' with hk' | hk'
        · exact h2 k hk'
        · simp only [List.mem_singleton] at hk'; subst hk'; exact hk
theorem sortZ_told {c : List Pck} {o : List Int} (h1 : o.Nodup) (h2 : ∀ k ∈ o, inB k 0 ((c.length : Int) - 1) = true) : Told c (sortZ o) :=
  ⟨((sortZ_sorted o).and ((sortZ_perm o).nodup_iff.2 h1)).imp fun h => by have := h.1; have := h.2; omega, fun k hk => h2 k ((sortZ_perm o).mem_iff.1 hk)⟩
theorem prsS_told (c : List Pck) (s : List UInt8) : Told c (prsS c s).2.2 := by
  unfold prsS
  split
  · exact .nil
  · obtain ⟨h1, h2⟩ := prsL_told (c := c) (ls := linesP s) (i := 0) (o := []) List.nodup_nil (by simp)
    exact sortZ_told h1 h2
theorem setW_told (c : List Pck) (l : List Fil) (n : Int) : Told c (setW c l n).2 := by
  unfold setW
  split
  · exact prsS_told c _
  · exact .nil
end Go.Proofs.YtidlnilcdmhkiaaGreatDoor

/- Walks: what is wrong with a disk. Plain theorems. -/
set_option linter.unusedVariables false
set_option linter.unusedSimpArgs false
namespace Go.Proofs.YtidlnilcdmhkiaaGreatDoor
open Go Go.Fw
set_option maxRecDepth 100000
/-- The step of filsF at place i, told by what the code asks. -/
structure FilStep (Ω : Opq) (l : List Fil) (r R : Int) (i : Nat) (c : Fil) : Prop where
  bad : ∀ q, pathF c.p = q → q ≠ 0 → r = q
  old : ∀ p, pathF c.p = 0 → 0 < i → l[i - 1]? = some p → Ω.cmpS .leq c.p p.p = true → r = 1
  big : pathF c.p = 0 → (i = 0 ∨ ∃ p, l[i - 1]? = some p ∧ Ω.cmpS .leq c.p p.p = false) → Ω.cmp .gtr (Ω.int (Ω.len (c.d.map byteA))) 4000 = true → r = 2
  next : pathF c.p = 0 → (i = 0 ∨ ∃ p, l[i - 1]? = some p ∧ Ω.cmpS .leq c.p p.p = false) → Ω.cmp .gtr (Ω.int (Ω.len (c.d.map byteA))) 4000 = false → r = if filsF (prevP l (i + 1)) (l.drop (i + 1)) ≠ 0 then filsF (prevP l (i + 1)) (l.drop (i + 1)) else R
theorem filStep {Ω : Opq} (hΩ : Ω = std) {l : List Fil} {r R : Int} {i : Nat} {c : Fil} (hc : l[i]? = some c) (hr : r = if filsF (prevP l i) (l.drop i) ≠ 0 then filsF (prevP l i) (l.drop i) else R) : FilStep Ω l r R i c := by
  subst hΩ
  rw [filsF_at hc] at hr
  have hpv : ∀ p, 0 < i → l[i - 1]? = some p → prevP l i = some p.p := fun p h0 hp => by unfold prevP; rw [if_neg (by omega), hp]; rfl
  have hle : ∀ a b : List UInt8, std.cmpS .leq a b = leB a b := fun a b => rfl
  have hbg : std.cmp .gtr (std.int (std.len (c.d.map byteA))) 4000 = decide (4000 < c.d.length) := by
    show decide ((4000 : Int) < ((c.d.map byteA).length : Int)) = _
    rw [List.length_map]
    exact decide_eq_decide.2 (by omega)
  have hno : (i = 0 ∨ ∃ p, l[i - 1]? = some p ∧ std.cmpS .leq c.p p.p = false) → (prevP l i).any (leB c.p) = false := fun h => by
    rcases Nat.eq_zero_or_pos i with h0 | h0
    · subst h0; rfl
    · obtain ⟨p, h1, h2⟩ := h.resolve_left (by omega)
      rw [hpv p h0 h1]; rw [hle] at h2; exact h2
  refine ⟨fun q h1 h2 => ?_, fun p h1 h2 h3 h4 => ?_, fun h1 h2 h3 => ?_, fun h1 h2 h3 => ?_⟩
  · rw [if_pos (by rw [if_pos (by rw [h1]; exact h2), h1]; exact h2), if_pos (by rw [h1]; exact h2), h1] at hr; exact hr
  · have e : (prevP l i).any (leB c.p) = true := by rw [hpv p h2 h3]; rw [hle] at h4; exact h4
    rw [if_neg (show ¬ pathF c.p ≠ 0 by rw [h1]; simp), if_pos e] at hr
    simpa using hr
  · rw [hbg, decide_eq_true_eq] at h3
    rw [if_neg (show ¬ pathF c.p ≠ 0 by rw [h1]; simp), hno h2, if_neg (show ¬ false = true by simp), if_pos h3] at hr
    simpa using hr
  · rw [hbg, decide_eq_false_iff_not] at h3
    rw [if_neg (show ¬ pathF c.p ≠ 0 by rw [h1]; simp), hno h2, if_neg (show ¬ false = true by simp), if_neg h3] at hr
    exact hr
/-- What a disk's fault is, told by what the code asks. -/
structure DskAsk (Ω : Opq) (F : Int → Int → Int → Bool) (x : Dsk) (n : Nat) (r : Int) : Prop where
  i1 : F x.bg 0 20000 = false → r = 3
  i2 : F x.wr 0 1000000000 = false → r = 3
  i3 : F x.st (-1) 1000000000 = false → r = 3
  i4 : F x.bg 0 20000 = true → F x.wr 0 1000000000 = true → F x.st (-1) 1000000000 = true → Ω.cmp .gtr (Ω.int n) 120 = true → r = 2
  i5 : F x.bg 0 20000 = true → F x.wr 0 1000000000 = true → F x.st (-1) 1000000000 = true → Ω.cmp .gtr (Ω.int n) 120 = false → n ≤ 120 ∧ r = if filsF (prevP x.f 0) (x.f.drop 0) ≠ 0 then filsF (prevP x.f 0) (x.f.drop 0) else if x.bg < (totL x.f : Int) then 8 else 0
theorem dskAsk {Ω : Opq} (hΩ : Ω = std) (x : Dsk) : DskAsk Ω inB x x.f.length (dskF x) := by
  subst hΩ
  unfold dskF
  refine ⟨fun h => ?_, fun h => ?_, fun h => ?_, fun h1 h2 h3 h => ?_, fun h1 h2 h3 h => ?_⟩
  · rw [h]; rfl
  · rw [h]; cases inB x.bg 0 20000 <;> rfl
  · rw [h]; cases inB x.bg 0 20000 <;> cases inB x.wr 0 1000000000 <;> rfl
  · rw [h1, h2, h3, if_neg (by simp), if_pos (by have h : (120 : Int) < x.f.length := gt_t h; omega)]
  · have h : (x.f.length : Int) ≤ 120 := gt_f h
    refine ⟨by omega, ?_⟩
    rw [h1, h2, h3, if_neg (by simp), if_neg (by omega)]; rfl
theorem c_specDiskFault (x : Dsk) (hl : x.f.length ≤ 1048576) (ht : totL x.f ≤ 1099511627776) : PCtr PP n_spec_DiskFault [x.enc false false] (i64 (dskF x)) := by
  obtain ⟨Ω, hΩ⟩ : ∃ Ω, Ω = std := ⟨_, rfl⟩
  have ha := dskAsk hΩ x
  obtain ⟨r, hr⟩ : ∃ r, r = dskF x := ⟨_, rfl⟩
  have htt := c_l7Total x hl ht
  have hin := c_l1In
  have hpa : ∀ s, ∃ q, pathF s = q ∧ PCtr PP n_spec_PathFault [str s] (i64 q) := fun s => ⟨_, rfl, c_specPathFault s⟩
  rw [← hr] at ha ⊢
  unfold Dsk.see at htt
  unfold Dsk.enc
  obtain ⟨l, v1, v2, v3, v4⟩ := x
  dsimp only at *
  have hst : ∀ i c, l[i]? = some c → r = (if filsF (prevP l i) (l.drop i) ≠ 0 then filsF (prevP l i) (l.drop i) else if v1 < (totL l : Int) then 8 else 0) → FilStep Ω l r (if v1 < (totL l : Int) then 8 else 0) i c := fun i c hc h => filStep hΩ hc h
  obtain ⟨n, hn⟩ : ∃ n, n = l.length := ⟨_, rfl⟩
  rw [← hn] at ha
  obtain ⟨xs, hxs⟩ : ∃ xs, xs = l.map (Fil.enc false) := ⟨_, rfl⟩
  rw [← hxs] at htt ⊢
  have hlen : Ω.int (Ω.len xs) = Ω.int n := by subst hΩ; show ((xs.length : Nat) : Int) = _; rw [hxs, List.length_map, hn]; rfl
  have hat : ∀ i c, l[i]? = some c → xs[(Ω.int i).toNat]? = some (.agg [str c.p, .sl false 1 (c.d.map byteA)]) := fun i c hc => (rdI hΩ hxs hc).trans rfl
  have hend : ∀ i, n ≤ i → l.drop i = [] := fun i hi => List.drop_of_length_le (by omega)
  have hnl : ∀ i, i < n → ∃ c, l[i]? = some c := fun i hi => at_of (by omega)
  generalize hT : (totL l : Int) = tt at *
  obtain ⟨i1, i2, i3, i4, i5⟩ := ha
  dsimp only at i1 i2 i3 i4 i5
  rw [hT] at i5
  have hin1 := hin v1 0 20000
  have hin2 := hin v2 0 1000000000
  have hin3 := hin v3 (-1) 1000000000
  generalize inB v1 0 20000 = b1 at *
  generalize inB v2 0 1000000000 = b2 at *
  generalize inB v3 (-1) 1000000000 = b3 at *
  have fin1 : v1 < tt → (if v1 < tt then (8 : Int) else 0) = 8 := fun h => if_pos h
  have fin2 : tt ≤ v1 → (if v1 < tt then (8 : Int) else 0) = 0 := fun h => if_neg (by omega)
  generalize (if v1 < tt then (8 : Int) else 0) = R at *
  have htab := tab
  have hmo := hmo
  refine PCtr.walk tab hΩ fn_spec_DiskFault rfl ?_
  generalize PP = P at *
  cbv
  refine call_pure hΩ 3 hin1 rfl (fits _) rfl rfl ?_
  cbv
  refine br (fun h1 => ?_) (fun h1 => ?_) <;> cbv
  · exact .of (congrArg i64 (i1 (notA hΩ h1)).symm)
  have h1 := notB hΩ h1
  refine call_pure hΩ 3 hin2 rfl (fits _) rfl rfl ?_
  cbv
  refine br (fun h2 => ?_) (fun h2 => ?_) <;> cbv
  · exact .of (congrArg i64 (i2 (notA hΩ (iteB hΩ h2))).symm)
  have h2 := notB hΩ (iteB hΩ h2)
  refine call_pure hΩ 3 hin3 rfl (fits _) rfl rfl ?_
  cbv
  refine br (fun h3 => ?_) (fun h3 => ?_) <;> cbv
  · exact .of (congrArg i64 (i3 (notA hΩ (iteB hΩ h3))).symm)
  have h3 := notB hΩ (iteB hΩ h3)
  refine br (fun h4 => ?_) (fun h4 => ?_) <;> cbv
  · exact .of (congrArg i64 (i4 h1 h2 h3 (by rw [← hlen]; exact h4)).symm)
  obtain ⟨hn120, he0⟩ := i5 h1 h2 h3 (by rw [← hlen]; exact h4)
  refine loopX htab hΩ (fun i : Nat => ⟨[(1, .rp [.sl false 2 xs, i64 v1, i64 v2, i64 v3, boo v4]), (3, i64 (Ω.int i))], 72, []⟩) (fun i => i ≤ n ∧ r = if filsF (prevP l i) (l.drop i) ≠ 0 then filsF (prevP l i) (l.drop i) else R) (fun i => n - i) 0 ⟨Nat.zero_le _, he0⟩
    (((Sbs.unlk (r := 0) rfl rfl).trans (Sbs.thaw0 (r := 0) rfl rfl rfl)).trans ((Sbs.cut 0 rfl).trans (Sbs.mk rfl rfl ⟨rfl, zeroI hΩ, trivial⟩))) ?_
  rintro i ⟨hi, he⟩
  cbv
  refine br (fun h => ?_) (fun h => ?_) <;> cbv
  · have h := ltZt hΩ h
    have h : i < n := by rw [hlen] at h; subst hΩ; have h : (i : Int) < (n : Int) := h; omega
    obtain ⟨c, hc⟩ := hnl i h
    have st := hst i c hc he
    obtain ⟨q, hq, hcq⟩ := hpa c.p
    have hac := hat i c hc
    obtain ⟨sb, so, sg, sn⟩ := st
    have hi1 : i + 1 ≤ n := by omega
    have hlt : n - (i + 1) < n - i := by omega
    have hinc : i64 (Ω.ar .add .i64 (Ω.int i) 1) = i64 (Ω.int (i + 1)) := incI hΩ (by omega)
    have hprev : 0 < i → ∃ p, l[i - 1]? = some p ∧ xs[(Ω.ar .sub .i64 (Ω.int i) 1).toNat]? = some (.agg [str p.p, .sl false 1 (p.d.map byteA)]) ∧ 0 ≤ Ω.ar .sub .i64 (Ω.int i) 1 := fun h0 => by
      obtain ⟨p, hp⟩ := hnl (i - 1) (by omega)
      obtain ⟨k1, k2⟩ := subI hΩ h0 (by omega)
      refine ⟨p, hp, ?_, k1⟩
      rw [k2, ← hat (i - 1) p hp]
      subst hΩ; rfl
    generalize c.d.map byteA = cd at *
    refine ⟨⟨nnI hΩ⟩, _, hac, ?_⟩
    cbv
    refine call_pure hΩ 3 hcq rfl (fits _) rfl rfl ?_
    cbv
    refine br (fun g => ?_) (fun g => ?_) <;> cbv
    · exact .of (congrArg i64 (sb q hq (neZt hΩ g)).symm)
    have g := neZf hΩ g
    have hq0 : pathF c.p = 0 := by rw [hq, g]
    refine ⟨VC_drawn htab hΩ hmo (by kernel_rfl) ?_⟩
    cbv
    have last : (i = 0 ∨ ∃ p, l[i - 1]? = some p ∧ Ω.cmpS .leq c.p p.p = false) → ∀ b, Ω.cmp .gtr (Ω.int (Ω.len cd)) 4000 = b → (b = true → r = 2) ∧ (b = false → (i + 1 ≤ n ∧ r = if filsF (prevP l (i + 1)) (l.drop (i + 1)) ≠ 0 then filsF (prevP l (i + 1)) (l.drop (i + 1)) else R)) :=
      fun h b hb => ⟨fun e => sg hq0 h (by rw [hb, e]), fun e => ⟨hi1, sn hq0 h (by rw [hb, e])⟩⟩
    refine br (fun k => ?_) (fun k => ?_) <;> cbv
    · have k := gtZt hΩ k
      have k : 0 < i := by subst hΩ; have k : (0 : Int) < (i : Int) := k; omega
      obtain ⟨p, hp, hpat, hp0⟩ := hprev k
      refine ⟨⟨nnI hΩ⟩, _, hac, ?_⟩
      cbv
      refine ⟨⟨hp0⟩, _, hpat, ?_⟩
      cbv
      refine br (fun m => ?_) (fun m => ?_) <;> cbv
      · exact .of (congrArg i64 (so p hq0 k hp (iteA hΩ m)).symm)
      have last := last (.inr ⟨p, hp, iteA hΩ m⟩)
      refine ⟨⟨nnI hΩ⟩, _, hac, ?_⟩
      cbv
      refine br (fun o => ?_) (fun o => ?_) <;> cbv
      · exact .of (congrArg i64 ((last _ o).1 rfl).symm)
      · exact ⟨i + 1, (last _ o).2 rfl, hlt, Sbs.mk rfl rfl ⟨rfl, hinc, trivial⟩⟩
    · have k := gtZf hΩ k
      have k : i = 0 := by subst hΩ; have k : (i : Int) ≤ 0 := k; omega
      have last := last (.inl k)
      refine ⟨⟨nnI hΩ⟩, _, hac, ?_⟩
      cbv
      refine br (fun o => ?_) (fun o => ?_) <;> cbv
      · exact .of (congrArg i64 ((last _ o).1 rfl).symm)
      · exact ⟨i + 1, (last _ o).2 rfl, hlt, Sbs.mk rfl rfl ⟨rfl, hinc, trivial⟩⟩
  · have h := ltZf hΩ h
    have h : i = n := by rw [hlen] at h; subst hΩ; have h : (n : Int) ≤ (i : Int) := h; omega
    have he : r = R := by rw [h, hend n (Nat.le_refl _)] at he; exact he.trans (if_neg (by simp [filsF]))
    refine ⟨VC_drawn htab hΩ hmo (by kernel_rfl) ?_⟩
    cbv
    refine QCall_pure (k := 3) htt rfl (fits _) rfl ?_
    cbv
    refine br (fun g => ?_) (fun g => ?_) <;> cbv
    · exact .of (congrArg i64 (by rw [he, fin1 (gtZt hΩ g)]))
    · exact .of (congrArg i64 (by rw [he, fin2 (gtZf hΩ g)]))
end Go.Proofs.YtidlnilcdmhkiaaGreatDoor

/- Walks: what is wrong with a disk, in the implementation. Plain theorems. -/
set_option linter.unusedVariables false
set_option linter.unusedSimpArgs false
namespace Go.Proofs.YtidlnilcdmhkiaaGreatDoor
open Go Go.Fw
set_option maxRecDepth 100000
theorem c_implDiskFault (x : Dsk) (hl : x.f.length ≤ 1048576) (ht : totL x.f ≤ 1099511627776) : PCtr PP n_impl_DiskFault [x.enc false false] (i64 (dskF x)) := by
  obtain ⟨Ω, hΩ⟩ : ∃ Ω, Ω = std := ⟨_, rfl⟩
  have ha := dskAsk hΩ x
  obtain ⟨r, hr⟩ : ∃ r, r = dskF x := ⟨_, rfl⟩
  have htt := c_total x hl ht
  have hin := c_within
  have hpa : ∀ s, ∃ q, pathF s = q ∧ PCtr PP n_impl_PathFault [str s] (i64 q) := fun s => ⟨_, rfl, c_implPathFault s⟩
  rw [← hr] at ha ⊢
  unfold Dsk.enc at htt ⊢
  obtain ⟨l, v1, v2, v3, v4⟩ := x
  dsimp only at *
  have hst : ∀ i c, l[i]? = some c → r = (if filsF (prevP l i) (l.drop i) ≠ 0 then filsF (prevP l i) (l.drop i) else if v1 < (totL l : Int) then 8 else 0) → FilStep Ω l r (if v1 < (totL l : Int) then 8 else 0) i c := fun i c hc h => filStep hΩ hc h
  obtain ⟨n, hn⟩ : ∃ n, n = l.length := ⟨_, rfl⟩
  rw [← hn] at ha
  obtain ⟨xs, hxs⟩ : ∃ xs, xs = l.map (Fil.enc false) := ⟨_, rfl⟩
  rw [← hxs] at htt ⊢
  have hlen : Ω.int (Ω.len xs) = Ω.int n := by subst hΩ; show ((xs.length : Nat) : Int) = _; rw [hxs, List.length_map, hn]; rfl
  have hat : ∀ i c, l[i]? = some c → xs[(Ω.int i).toNat]? = some (.agg [str c.p, .sl false 1 (c.d.map byteA)]) := fun i c hc => (rdI hΩ hxs hc).trans rfl
  have hend : ∀ i, n ≤ i → l.drop i = [] := fun i hi => List.drop_of_length_le (by omega)
  have hnl : ∀ i, i < n → ∃ c, l[i]? = some c := fun i hi => at_of (by omega)
  generalize hT : (totL l : Int) = tt at *
  obtain ⟨i1, i2, i3, i4, i5⟩ := ha
  dsimp only at i1 i2 i3 i4 i5
  rw [hT] at i5
  have hin1 := hin v1 0 20000
  have hin2 := hin v2 0 1000000000
  have hin3 := hin v3 (-1) 1000000000
  generalize inB v1 0 20000 = b1 at *
  generalize inB v2 0 1000000000 = b2 at *
  generalize inB v3 (-1) 1000000000 = b3 at *
  have fin1 : v1 < tt → (if v1 < tt then (8 : Int) else 0) = 8 := fun h => if_pos h
  have fin2 : tt ≤ v1 → (if v1 < tt then (8 : Int) else 0) = 0 := fun h => if_neg (by omega)
  generalize (if v1 < tt then (8 : Int) else 0) = R at *
  have htab := tab
  have hmo := hmo
  refine PCtr.walk tab hΩ fn_impl_DiskFault rfl ?_
  generalize PP = P at *
  cbv
  refine call_pure hΩ 3 hin1 rfl (fits _) rfl rfl ?_
  cbv
  refine br (fun h1 => ?_) (fun h1 => ?_) <;> cbv
  · exact .of (congrArg i64 (i1 (notA hΩ h1)).symm)
  have h1 := notB hΩ h1
  refine call_pure hΩ 3 hin2 rfl (fits _) rfl rfl ?_
  cbv
  refine br (fun h2 => ?_) (fun h2 => ?_) <;> cbv
  · exact .of (congrArg i64 (i2 (notA hΩ (iteB hΩ h2))).symm)
  have h2 := notB hΩ (iteB hΩ h2)
  refine call_pure hΩ 3 hin3 rfl (fits _) rfl rfl ?_
  cbv
  refine br (fun h3 => ?_) (fun h3 => ?_) <;> cbv
  · exact .of (congrArg i64 (i3 (notA hΩ (iteB hΩ h3))).symm)
  have h3 := notB hΩ (iteB hΩ h3)
  refine br (fun h4 => ?_) (fun h4 => ?_) <;> cbv
  · exact .of (congrArg i64 (i4 h1 h2 h3 (by rw [← hlen]; exact h4)).symm)
  obtain ⟨hn120, he0⟩ := i5 h1 h2 h3 (by rw [← hlen]; exact h4)
  refine loopX htab hΩ (fun i : Nat => ⟨[(1, .rp [.sl false 2 xs, i64 v1, i64 v2, i64 v3, boo v4]), (29, .sl false 2 xs), (30, i64 (Ω.int n)), (31, i64 (Ω.int i))], 68, []⟩) (fun i => i ≤ n ∧ r = if filsF (prevP l i) (l.drop i) ≠ 0 then filsF (prevP l i) (l.drop i) else R) (fun i => n - i) 0 ⟨Nat.zero_le _, he0⟩
    (((Sbs.unlk (r := 0) rfl rfl).trans (Sbs.thaw0 (r := 0) rfl rfl rfl)).trans ((Sbs.cut 0 rfl).trans (Sbs.mk rfl rfl ⟨rfl, rfl, congrArg i64 hlen, zeroI hΩ, trivial⟩))) ?_
  rintro i ⟨hi, he⟩
  cbv
  refine br (fun h => ?_) (fun h => ?_) <;> cbv
  · have h := ltZt hΩ h
    have h : i < n := by subst hΩ; have h : (i : Int) < (n : Int) := h; omega
    obtain ⟨c, hc⟩ := hnl i h
    have st := hst i c hc he
    obtain ⟨q, hq, hcq⟩ := hpa c.p
    have hac := hat i c hc
    obtain ⟨sb, so, sg, sn⟩ := st
    have hi1 : i + 1 ≤ n := by omega
    have hlt : n - (i + 1) < n - i := by omega
    have hinc : i64 (Ω.ar .add .i64 (Ω.int i) 1) = i64 (Ω.int (i + 1)) := incI hΩ (by omega)
    have hprev : 0 < i → ∃ p, l[i - 1]? = some p ∧ xs[(Ω.ar .sub .i64 (Ω.int i) 1).toNat]? = some (.agg [str p.p, .sl false 1 (p.d.map byteA)]) ∧ 0 ≤ Ω.ar .sub .i64 (Ω.int i) 1 := fun h0 => by
      obtain ⟨p, hp⟩ := hnl (i - 1) (by omega)
      obtain ⟨k1, k2⟩ := subI hΩ h0 (by omega)
      refine ⟨p, hp, ?_, k1⟩
      rw [k2, ← hat (i - 1) p hp]
      subst hΩ; rfl
    generalize c.d.map byteA = cd at *
    refine ⟨⟨nnI hΩ⟩, _, hac, ?_⟩
    cbv
    refine call_pure hΩ 3 hcq rfl (fits _) rfl rfl ?_
    cbv
    refine br (fun g => ?_) (fun g => ?_) <;> cbv
    · exact .of (congrArg i64 (sb q hq (neZt hΩ g)).symm)
    have g := neZf hΩ g
    have hq0 : pathF c.p = 0 := by rw [hq, g]
    refine ⟨VC.sub (VC_drawn htab hΩ hmo (by kernel_rfl) ?_) ((Sbs.unlk (r := 0) rfl rfl).trans (Sbs.thaw0 (r := 0) rfl rfl rfl))⟩
    cbv
    have last : (i = 0 ∨ ∃ p, l[i - 1]? = some p ∧ Ω.cmpS .leq c.p p.p = false) → ∀ b, Ω.cmp .gtr (Ω.int (Ω.len cd)) 4000 = b → (b = true → r = 2) ∧ (b = false → (i + 1 ≤ n ∧ r = if filsF (prevP l (i + 1)) (l.drop (i + 1)) ≠ 0 then filsF (prevP l (i + 1)) (l.drop (i + 1)) else R)) :=
      fun h b hb => ⟨fun e => sg hq0 h (by rw [hb, e]), fun e => ⟨hi1, sn hq0 h (by rw [hb, e])⟩⟩
    refine br (fun k => ?_) (fun k => ?_) <;> cbv
    · have k := gtZt hΩ k
      have k : 0 < i := by subst hΩ; have k : (0 : Int) < (i : Int) := k; omega
      obtain ⟨p, hp, hpat, hp0⟩ := hprev k
      refine ⟨⟨hp0⟩, _, hpat, ?_⟩
      cbv
      refine br (fun m => ?_) (fun m => ?_) <;> cbv
      · exact .of (congrArg i64 (so p hq0 k hp (iteA hΩ m)).symm)
      have last := last (.inr ⟨p, hp, iteA hΩ m⟩)
      refine br (fun o => ?_) (fun o => ?_) <;> cbv
      · exact .of (congrArg i64 ((last _ o).1 rfl).symm)
      · exact ⟨i + 1, (last _ o).2 rfl, hlt, (Sbs.cut 0 rfl).trans (Sbs.mk rfl rfl ⟨rfl, rfl, rfl, hinc, trivial⟩)⟩
    · have k := gtZf hΩ k
      have k : i = 0 := by subst hΩ; have k : (i : Int) ≤ 0 := k; omega
      have last := last (.inl k)
      refine br (fun o => ?_) (fun o => ?_) <;> cbv
      · exact .of (congrArg i64 ((last _ o).1 rfl).symm)
      · exact ⟨i + 1, (last _ o).2 rfl, hlt, (Sbs.cut 0 rfl).trans (Sbs.mk rfl rfl ⟨rfl, rfl, rfl, hinc, trivial⟩)⟩
  · have h := ltZf hΩ h
    have h : i = n := by subst hΩ; have h : (n : Int) ≤ (i : Int) := h; omega
    have he : r = R := by rw [h, hend n (Nat.le_refl _)] at he; exact he.trans (if_neg (by simp [filsF]))
    refine ⟨VC_drawn htab hΩ hmo (by kernel_rfl) ?_⟩
    cbv
    refine QCall_pure (k := 3) htt rfl (fits _) rfl ?_
    cbv
    refine br (fun g => ?_) (fun g => ?_) <;> cbv
    · exact .of (congrArg i64 (by rw [he, fin1 (gtZt hΩ g)]))
    · exact .of (congrArg i64 (by rw [he, fin2 (gtZf hΩ g)]))
end Go.Proofs.YtidlnilcdmhkiaaGreatDoor

/- Walks: codes of catalogs and disks; sets of numbers. Plain theorems. -/
set_option linter.unusedVariables false
set_option linter.unusedSimpArgs false
namespace Go.Proofs.YtidlnilcdmhkiaaGreatDoor
open Go Go.Fw
set_option maxRecDepth 100000
/-- The code of a catalog and a disk. -/
def bthC (c : List Pck) (x : Dsk) : Int := if catF c ≠ 0 then catF c else dskF x
theorem c_bothCode (c : List Pck) (x : Dsk) (hl : c.length ≤ 1048576) (ho : ∀ o ∈ c, o.Small) (hx : x.Fit) : PCtr PP n_impl_bothCode [encP c, x.enc false false] (i64 (bthC c x)) := by
  obtain ⟨Ω, hΩ⟩ : ∃ Ω, Ω = std := ⟨_, rfl⟩
  have h1 := c_implCatalogFault c hl ho
  have h2 := c_implDiskFault x hx.n hx.t
  have h3 := c_firstCode [catF c, dskF x] (by simp)
  rw [show orF [catF c, dskF x] = bthC c x by unfold bthC; simp only [orF]; by_cases e : dskF x = 0 <;> simp [e]] at h3
  generalize bthC c x = b at *
  generalize catF c = b1 at *
  generalize dskF x = b2 at *
  unfold encP Dsk.enc at *
  generalize x.f.map (Fil.enc false) = xs at *
  generalize c.map (Pck.enc false) = cs at *
  have htab := tab
  have hmo := hmo
  refine PCtr.walk tab hΩ fn_impl_bothCode rfl ?_
  generalize PP = P at *
  cbv
  refine ⟨VC.sub (VC_tail htab hΩ hmo 4 (by kernel_rfl) ?_) ((Sbs.unlk (r := 0) rfl rfl).trans (Sbs.thaw0 (r := 0) rfl rfl rfl))⟩
  cbv
  refine QCall_pure (k := 3) h1 rfl (fits _) rfl ?_
  cbv
  refine QCall_pure (k := 4) h2 rfl (fits _) rfl ?_
  cbv
  refine call_pure hΩ 3 h3 rfl (fits _) rfl rfl ?_
  cbv
  exact .same
theorem c_l8Asked (c : List Pck) (x : Dsk) (hl : c.length ≤ 1048576) (ho : ∀ o ∈ c, o.Small) (hx : x.Fit) : PCtr PP n_spec_l8Asked [encP c, x.enc false false] (i64 (bthC c x)) := by
  obtain ⟨Ω, hΩ⟩ : ∃ Ω, Ω = std := ⟨_, rfl⟩
  have h1 := c_specCatalogFault c hl ho
  have h2 := c_specDiskFault x hx.n hx.t
  have e1 : catF c ≠ 0 → bthC c x = catF c := fun h => if_pos h
  have e2 : catF c = 0 → bthC c x = dskF x := fun h => if_neg (by simp [h])
  generalize bthC c x = b at *
  generalize catF c = b1 at *
  generalize dskF x = b2 at *
  unfold encP Dsk.enc at *
  generalize x.f.map (Fil.enc false) = xs at *
  generalize c.map (Pck.enc false) = cs at *
  have htab := tab
  have hmo := hmo
  refine PCtr.walk tab hΩ fn_spec_l8Asked rfl ?_
  generalize PP = P at *
  cbv
  refine call_pure hΩ 3 h1 rfl (fits _) rfl rfl ?_
  cbv
  refine br (fun h => ?_) (fun h => ?_) <;> cbv
  · exact .of (congrArg i64 (e1 (neZt hΩ h)).symm)
  · refine call_pure hΩ 4 h2 rfl (fits _) rfl rfl ?_
    cbv
    exact .of (congrArg i64 (e2 (neZf hΩ h)).symm)
end Go.Proofs.YtidlnilcdmhkiaaGreatDoor

/- Walks: what a number alone has, in the implementation. Plain theorems. -/
set_option linter.unusedVariables false
set_option linter.unusedSimpArgs false
namespace Go.Proofs.YtidlnilcdmhkiaaGreatDoor
open Go Go.Fw Go.Sort
set_option maxRecDepth 100000
theorem brT {p : Bool} {X Y : Prop} (h : p = true) (hx : X) : match (generalizing := false) p with | true => X | false => Y := br (fun _ => hx) fun g => by rw [h] at g; cases g
theorem brF {p : Bool} {X Y : Prop} (h : p = false) (hy : Y) : match (generalizing := false) p with | true => X | false => Y := br (fun g => by rw [h] at g; cases g) fun _ => hy
theorem neT {Ω : Opq} (hΩ : Ω = std) {x y : Int} (h : x ≠ y) : Ω.cmp .neq x y = true := by subst hΩ; show (!decide (x = y)) = true; simp [h]
theorem neF {Ω : Opq} (hΩ : Ω = std) {x y : Int} (h : x = y) : Ω.cmp .neq x y = false := by subst hΩ; subst h; show (!decide (x = x)) = false; simp
theorem bthC_ok {c : List Pck} {x : Dsk} (hx : x.Fit) (h : bthC c x = 0) : catF c = 0 ∧ x.Ok := by
  unfold bthC at h
  split at h
  · rename_i h1; exact absurd h h1
  · rename_i h1; exact ⟨by simpa using h1, hx.ok h⟩

end Go.Proofs.YtidlnilcdmhkiaaGreatDoor

/- Walks: the changes between two numbers. Plain theorems. -/
set_option linter.unusedVariables false
set_option linter.unusedSimpArgs false
namespace Go.Proofs.YtidlnilcdmhkiaaGreatDoor
open Go Go.Fw Go.Sort
set_option maxRecDepth 100000
/-- Code and changes between two numbers. -/
def gcC (c : List Pck) (x : Dsk) (a b : Int) : Int :=
  if bthC c x ≠ 0 then bthC c x else if (setW c x.f a).1 ≠ 0 then (setW c x.f a).1 else if (setW c x.f b).1 ≠ 0 then (setW c x.f b).1 else dltC c (setW c x.f a).2 (setW c x.f b).2
def gcG (c : List Pck) (x : Dsk) (a b : Int) : List Chg :=
  if bthC c x ≠ 0 then [] else if (setW c x.f a).1 ≠ 0 then [] else if (setW c x.f b).1 ≠ 0 then [] else chOf c (setW c x.f a).2 (setW c x.f b).2
theorem gc_bad {c : List Pck} {x : Dsk} {a b : Int} (h : bthC c x ≠ 0) : chgR (gcC c x a b) (gcG c x a b) = .agg [i64 (bthC c x), i64 0, .sl true 8 []] := by
  unfold gcC gcG chgR; rw [if_pos h, if_pos h]; rfl
structure GcR (c : List Pck) (x : Dsk) (a b : Int) (R : A) : Prop where
  a1 : (setW c x.f a).1 ≠ 0 → R = .agg [i64 (setW c x.f a).1, i64 0, .sl true 8 []]
  b1 : (setW c x.f a).1 = 0 → (setW c x.f b).1 ≠ 0 → R = .agg [i64 (setW c x.f b).1, i64 0, .sl true 8 []]
  ok : (setW c x.f a).1 = 0 → (setW c x.f b).1 = 0 → R = chgR (dltC c (setW c x.f a).2 (setW c x.f b).2) (chOf c (setW c x.f a).2 (setW c x.f b).2)
theorem gcR {c : List Pck} {x : Dsk} {a b : Int} (h : bthC c x = 0) : GcR c x a b (chgR (gcC c x a b) (gcG c x a b)) := by
  have h : ¬ bthC c x ≠ 0 := by simp [h]
  unfold gcC gcG
  refine ⟨fun h1 => ?_, fun h1 h2 => ?_, fun h1 h2 => ?_⟩
  · rw [if_neg h, if_pos h1, if_neg h, if_pos h1]; rfl
  · rw [if_neg h, if_neg (by simp [h1]), if_pos h2, if_neg h, if_neg (by simp [h1]), if_pos h2]; rfl
  · rw [if_neg h, if_neg (by simp [h1]), if_neg (by simp [h2]), if_neg h, if_neg (by simp [h1]), if_neg (by simp [h2])]
theorem c_implGenChanges (c : List Pck) (x : Dsk) (a b : Int) (hl : c.length ≤ 1048576) (ho : ∀ o ∈ c, o.Small) (hx : x.Fit) : PCtr PP n_impl_GenChanges [encP c, x.enc false false, i64 a, i64 b] (chgR (gcC c x a b) (gcG c x a b)) := by
  obtain ⟨Ω, hΩ⟩ : ∃ Ω, Ω = std := ⟨_, rfl⟩
  have h1 := c_bothCode c x hl ho hx
  obtain ⟨R, hR⟩ : ∃ R, R = chgR (gcC c x a b) (gcG c x a b) := ⟨_, rfl⟩
  rw [← hR]
  by_cases hb : bthC c x = 0
  rotate_left
  · rw [gc_bad hb] at hR
    subst hR
    generalize bthC c x = b at *
    unfold encP Dsk.enc at *
    generalize x.f.map (Fil.enc false) = xs at *
    generalize c.map (Pck.enc false) = cs at *
    have htab := tab
    refine PCtr.walk tab hΩ fn_impl_GenChanges rfl ?_
    generalize PP = P at *
    cbv
    refine call_pure hΩ 4 h1 rfl (fits _) rfl rfl ?_
    cbv
    refine brT (neT hΩ hb) ?_
    cbv
    exact fit_nilN 8 _ 0
  obtain ⟨hc, hxo⟩ := bthC_ok hx hb
  obtain ⟨R1, R2, R3⟩ := gcR (a := a) (b := b) hb
  rw [← hR] at R1 R2 R3
  rw [hb] at h1
  have h2 := fun n => c_setOf c x n hl ho hc hxo
  have hl24 := (cat_ok hc).1
  have ha := (setW_told c x.f a).len
  have hb' := (setW_told c x.f b).len
  have h3 := c_changesOf c (setW c x.f a).2 (setW c x.f b).2 hl ho (by omega) (by omega)
  have ha2 := h2 a
  have hb2 := h2 b
  have rr : ∀ (s : List Int) k, roFree (.tup [.sl true 1 (s.map i64), i64 k]) = true := fun s k => by
    have := roF_I s
    rw [roFree_tup]; simp only [List.all_cons, List.all_nil, this]; rfl
  have zz : ∀ (s : List Int) k, frz (.tup [.sl true 1 (s.map i64), i64 k]) = .tup [.sl false 1 (s.map i64), i64 k] := fun s k => by
    rw [frz_tup]; simp only [List.map_cons, List.map_nil, frz_sl, frz_I]; rfl
  have ra := rr (setW c x.f a).2 (setW c x.f a).1
  have za := zz (setW c x.f a).2 (setW c x.f a).1
  have rb := rr (setW c x.f b).2 (setW c x.f b).1
  have zb := zz (setW c x.f b).2 (setW c x.f b).1
  have r3 : roFree (.tup [.sl true 8 ((chOf c (setW c x.f a).2 (setW c x.f b).2).map Chg.enc), i64 (dltC c (setW c x.f a).2 (setW c x.f b).2)]) = true := by
    rw [roFree_tup]; simp only [List.all_cons, List.all_nil, roF_Chgs]; rfl
  clear h2 rr zz hR ha hb'
  unfold chgR at R3
  generalize setW c x.f a = wa at *
  generalize setW c x.f b = wb at *
  obtain ⟨ka, sa⟩ := wa
  obtain ⟨kb, sb⟩ := wb
  dsimp only at *
  generalize chOf c sa sb = g at *
  generalize dltC c sa sb = kd at *
  generalize g.map Chg.enc = gs at *
  generalize sa.map i64 = saa at *
  generalize sb.map i64 = sba at *
  have hle : Ω.len gs ≤ gs.length := by subst hΩ; exact Nat.le_refl _
  have htk : Ω.take (Ω.len gs) gs = gs := takeAll hΩ _
  unfold encP Dsk.enc at *
  generalize x.f.map (Fil.enc false) = xs at *
  generalize c.map (Pck.enc false) = cs at *
  have htab := tab
  refine PCtr.walk tab hΩ fn_impl_GenChanges rfl ?_
  generalize PP = P at *
  cbv
  refine call_pure hΩ 4 h1 rfl (fits _) rfl rfl ?_
  cbv
  refine brF (neF hΩ rfl) ?_
  cbv
  refine call_pf hΩ 4 ha2 rfl (fits _) ra za rfl ?_
  cbv
  refine br (fun h => ?_) (fun h => ?_) <;> cbv
  · rw [R1 (neZt hΩ h)]
    exact fit_nilN 8 _ 0
  have ha := neZf hΩ h
  refine call_pf hΩ 4 hb2 rfl (fits _) rb zb rfl ?_
  cbv
  refine br (fun h => ?_) (fun h => ?_) <;> cbv
  · rw [R2 ha (neZt hΩ h)]
    exact fit_nilN 8 _ 0
  have hb := neZf hΩ h
  rw [R3 ha hb]
  refine call_pure hΩ 4 h3 rfl (fits _) r3 rfl ?_
  cbv
  exact ⟨⟨rfl, hle⟩, .of (by show A.agg [i64 kd, i64 0, .sl true 8 (Ω.take (Ω.len gs) gs)] = _; rw [htk]; rfl)⟩
theorem c_specGenChanges (c : List Pck) (x : Dsk) (a b : Int) (hl : c.length ≤ 1048576) (ho : ∀ o ∈ c, o.Small) (hx : x.Fit) : PCtr PP n_spec_GenChanges [encP c, x.enc false false, i64 a, i64 b] (chgR (gcC c x a b) (gcG c x a b)) := by
  obtain ⟨Ω, hΩ⟩ : ∃ Ω, Ω = std := ⟨_, rfl⟩
  have h1 := c_l8Asked c x hl ho hx
  obtain ⟨R, hR⟩ : ∃ R, R = chgR (gcC c x a b) (gcG c x a b) := ⟨_, rfl⟩
  rw [← hR]
  by_cases hb : bthC c x = 0
  rotate_left
  · rw [gc_bad hb] at hR
    subst hR
    generalize bthC c x = b at *
    unfold encP Dsk.enc at *
    generalize x.f.map (Fil.enc false) = xs at *
    generalize c.map (Pck.enc false) = cs at *
    have htab := tab
    refine PCtr.walk tab hΩ fn_spec_GenChanges rfl ?_
    generalize PP = P at *
    cbv
    refine call_pure hΩ 4 h1 rfl (fits _) rfl rfl ?_
    cbv
    refine brT (neT hΩ hb) ?_
    cbv
    exact fit_nilN 8 _ 0
  obtain ⟨hc, hxo⟩ := bthC_ok hx hb
  obtain ⟨R1, R2, R3⟩ := gcR (a := a) (b := b) hb
  rw [← hR] at R1 R2 R3
  rw [hb] at h1
  have h2 := fun n => c_l8Set c x n hl hxo
  have hl24 := (cat_ok hc).1
  have ha := (setW_told c x.f a).len
  have hb' := (setW_told c x.f b).len
  have h3 := c_specChangesOf c (setW c x.f a).2 (setW c x.f b).2 hl ho (by omega) (by omega)
  have ha2 := h2 a
  have hb2 := h2 b
  have zz : ∀ (s : List Int) k, frz (setR k 0 s) = .agg [i64 k, i64 0, .sl false 1 (s.map i64)] := fun s k => by
    unfold setR; rw [frz_agg]; simp only [List.map_cons, List.map_nil, frz_sl, frz_I]; rfl
  have ra := roFI3 (setW c x.f a).1 0 (setW c x.f a).2
  have za := zz (setW c x.f a).2 (setW c x.f a).1
  have rb := roFI3 (setW c x.f b).1 0 (setW c x.f b).2
  have zb := zz (setW c x.f b).2 (setW c x.f b).1
  have r3 : roFree (chgR (dltC c (setW c x.f a).2 (setW c x.f b).2) (chOf c (setW c x.f a).2 (setW c x.f b).2)) = true := by
    unfold chgR; rw [roFree_agg]; simp only [List.all_cons, List.all_nil, roF_Chgs]; rfl
  clear h2 zz hR ha hb'
  unfold chgR at R3 h3 r3
  unfold setR at ha2 hb2 ra rb za zb
  generalize setW c x.f a = wa at *
  generalize setW c x.f b = wb at *
  obtain ⟨ka, sa⟩ := wa
  obtain ⟨kb, sb⟩ := wb
  dsimp only at *
  generalize chOf c sa sb = g at *
  generalize dltC c sa sb = kd at *
  generalize g.map Chg.enc = gs at *
  generalize sa.map i64 = saa at *
  generalize sb.map i64 = sba at *
  have hle : Ω.len gs ≤ gs.length := by subst hΩ; exact Nat.le_refl _
  have htk : Ω.take (Ω.len gs) gs = gs := takeAll hΩ _
  unfold encP Dsk.enc Dsk.see at *
  generalize x.f.map (Fil.enc false) = xs at *
  generalize c.map (Pck.enc false) = cs at *
  have htab := tab
  refine PCtr.walk tab hΩ fn_spec_GenChanges rfl ?_
  generalize PP = P at *
  cbv
  refine call_pure hΩ 4 h1 rfl (fits _) rfl rfl ?_
  cbv
  refine brF (neF hΩ rfl) ?_
  cbv
  refine call_pf hΩ 4 ha2 (mapO3 rfl (roPt rfl rfl) rfl) (fits _) ra za rfl ?_
  cbv
  refine br (fun h => ?_) (fun h => ?_) <;> cbv
  · rw [R1 (neZt hΩ h)]
    exact fit_nilN 8 _ 0
  have ha := neZf hΩ h
  refine call_pf hΩ 4 hb2 (mapO3 rfl (roPt rfl rfl) rfl) (fits _) rb zb rfl ?_
  cbv
  refine br (fun h => ?_) (fun h => ?_) <;> cbv
  · rw [R2 ha (neZt hΩ h)]
    exact fit_nilN 8 _ 0
  have hb := neZf hΩ h
  rw [R3 ha hb]
  refine call_pure hΩ 4 h3 rfl (fits _) r3 rfl ?_
  cbv
  exact ⟨⟨rfl, hle⟩, .of (by show A.agg [i64 kd, i64 0, .sl true 8 (Ω.take (Ω.len gs) gs)] = _; rw [htk]; rfl)⟩
theorem gcG_len {c : List Pck} {x : Dsk} {a b : Int} : (gcG c x a b).length ≤ c.length := by
  unfold gcG
  repeat' split
  all_goals first | exact Nat.zero_le _ | exact chOf_len
end Go.Proofs.YtidlnilcdmhkiaaGreatDoor

/- The law of GenChanges, walked. Plain theorems. -/
set_option linter.unusedVariables false
set_option linter.unusedSimpArgs false
namespace Go.Proofs.YtidlnilcdmhkiaaGreatDoor
open Go Go.Fw
set_option maxRecDepth 100000


set_option maxHeartbeats 4000000 in
theorem c_lawGenChanges (cs : List Pck) (x : Dsk) (a : Int) (b : Int) (hm : cs.length ≤ maxLen) (hf : ∀ o ∈ cs, o.Fit) (hxm : x.f.length ≤ maxLen) (hxf : ∀ f ∈ x.f, f.Fit) : PCtr PP n_laws_FnExactGenChanges [.sl false 8 (cs.map (Pck.enc false)), x.enc false false, i64 a, i64 b] (boo true) := by
  obtain ⟨Ω, hΩ⟩ : ∃ Ω, Ω = std := ⟨_, rfl⟩
  obtain ⟨xs, hxs⟩ : ∃ xs, xs = cs.map (Pck.enc false) := ⟨_, rfl⟩
  obtain ⟨os, hos⟩ : ∃ os, os = cs.map (Pck.enc true) := ⟨_, rfl⟩
  obtain ⟨fs, hfs⟩ : ∃ fs, fs = x.f.map (Fil.enc false) := ⟨_, rfl⟩
  obtain ⟨gs, hgs⟩ : ∃ gs, gs = x.f.map (Fil.enc true) := ⟨_, rfl⟩
  obtain ⟨kk, hkk⟩ : ∃ kk, kk = gcC cs x a b := ⟨_, rfl⟩
  obtain ⟨g, hg⟩ : ∃ g, g = gcG cs x a b := ⟨_, rfl⟩
  obtain ⟨zs, hzs⟩ : ∃ zs, zs = g.map Chg.enc := ⟨_, rfl⟩
  have hzl : zs.length = g.length := by rw [hzs, List.length_map]
  have hof : os.map frz = xs := by rw [hos, hxs]; exact frz_Pcks cs
  have hgf : gs.map frz = fs := by rw [hgs, hfs]; exact frz_Fils x.f
  have hzf : zs.map frz = zs := by rw [hzs]; exact frz_Cg _
  have ro : roFree (.sl true 8 os) = true := by rw [hos]; exact roFPs cs
  have rd : roFree (x.enc true true) = true := roFD x
  have rz : roFree (.agg [i64 kk, i64 0, .sl true 8 zs]) = true := by rw [hzs]; exact roF_chgR _ _ _
  have h1 := c_szPackS cs 1048576 (by omega) (by omega) hm hf
  obtain ⟨l, hl, hl2, hl3⟩ : ∃ l, szS szP cs 1048576 = l ∧ (0 ≤ l → cs.length ≤ 1048576 ∧ (∀ o ∈ cs, o.Small) ∧ psum Pck.cnt cs cs.length ≤ 12582912) ∧ (0 ≤ l → l ≤ 1048576) := ⟨_, rfl, sz_facts, fun h => szP_le _ h⟩
  obtain ⟨l2, hd1, hd2⟩ : ∃ l2, (0 ≤ l → PCtr PP n_laws_szDisk [x.enc false false, i64 l] (i64 l2)) ∧ (0 ≤ l → 0 ≤ l2 → x.Fit ∧ x.cnt ≤ 2097152) := ⟨_, fun h0 => c_szDisk x l h0 (hl3 h0) hxm hxf, fun h0 h2 => ⟨szD_facts rfl (hl3 h0) h2, szD_cnt rfl (hl3 h0) h2⟩⟩
  obtain ⟨n, hn⟩ : ∃ n, n = g.length := ⟨_, rfl⟩
  have hnl : n ≤ cs.length := by rw [hn, hg]; exact gcG_len
  obtain ⟨m1, hm1⟩ : ∃ m1 : Int, m1 = 1 + psum Pck.cnt cs cs.length := ⟨_, rfl⟩
  obtain ⟨m2, hm2⟩ : ∃ m2 : Int, m2 = m1 + x.cnt := ⟨_, rfl⟩
  have hm20 : 0 ≤ m2 := by omega
  obtain ⟨m3, hm3⟩ : ∃ m3 : Int, m3 = 1 + 8 * (n : Nat) := ⟨_, rfl⟩
  have hm30 : 0 ≤ m3 := by omega
  obtain ⟨bs, hbs⟩ : ∃ bs, bs = (marksC 1 n).map Chg.enc := ⟨_, rfl⟩
  have hbl : bs.length = zs.length := by rw [hbs, hzl, List.length_map, marksC_length, hn]
  have hbf : bs.map frz = bs := by rw [hbs]; exact frz_Cg _
  have H : 0 ≤ l → 0 ≤ l2 → (PCtr PP n_laws_toPackS [.sl false 8 xs] (.sl true 8 os) ∧ PCtr PP n_laws_toDisk [x.enc false false] (x.enc true true)) ∧
      (PCtr PP n_spec_GenChanges [.sl false 8 xs, x.enc false false, i64 a, i64 b] (.agg [i64 kk, i64 0, .sl true 8 zs]) ∧ PCtr PP n_impl_GenChanges [.sl false 8 xs, x.enc false false, i64 a, i64 b] (.agg [i64 kk, i64 0, .sl true 8 zs])) ∧
      (PCtr PP n_laws_eqChangesResult [.agg [i64 kk, i64 0, .sl false 8 zs], .agg [i64 kk, i64 0, .sl false 8 zs]] (boo true) ∧ PCtr PP n_laws_eqPackS [.sl false 8 xs, .sl false 8 xs] (boo true) ∧ PCtr PP n_laws_eqDisk [x.enc false false, x.enc false false] (boo true)) ∧
      (ECtr PP n_laws_markPackS [.sl true 8 os, i64 1] (i64 m1) ∧ ECtr PP n_laws_markDisk [x.enc true true, i64 m1] (i64 m2)) ∧
      (MCtr PP n_laws_markChangesResult [.agg [i64 kk, i64 0, .sl true 8 zs], i64 1] (i64 m3) [.agg [i64 kk, i64 0, .sl true 8 bs], i64 1] ∧ PCtr PP n_laws_heldChangesResult [.agg [i64 kk, i64 0, .sl false 8 bs], i64 1] (i64 m3)) := fun h h2 => by
    obtain ⟨k1, k2, k3⟩ := hl2 h
    obtain ⟨kx, kx2⟩ := hd2 h h2
    have a1 := c_toPackS cs k1 k2
    have a2 := c_toDisk x kx
    have a3 := c_specGenChanges cs x a b k1 k2 kx
    have a4 := c_implGenChanges cs x a b k1 k2 kx
    have a5 := c_eqChangesResult kk 0 g (by omega)
    have a6 := c_eqPackS cs k1 k2
    have a7 := c_eqDisk x kx
    have a8 := c_markPackS cs 1 (by omega) (by omega) k1 k2
    have a9 := c_markDisk x m1 (by omega) (by omega) kx
    have b1 := c_markChangesResult kk 0 g 1 (by omega) (by omega) (by omega)
    have b2 := c_heldChangesResult kk 0 n 1 (by omega) (by omega) (by omega)
    unfold chgR at a3 a4
    unfold encP at a3 a4
    rw [← hkk, ← hg, ← hzs, ← hxs] at a3 a4
    rw [← hxs] at a1 a6
    rw [← hos] at a1 a8
    rw [← hzs] at a5 b1
    rw [← hn, ← hm3, ← hbs] at b1
    rw [← hm3, ← hbs] at b2
    rw [← hm1] at a8
    rw [← hm2] at a9
    exact ⟨⟨a1, a2⟩, ⟨a3, a4⟩, ⟨a5, a6, a7⟩, ⟨a8, a9⟩, b1, b2⟩
  rw [hl, ← hxs] at h1
  rw [← hxs]
  unfold Dsk.enc at *
  rw [← hfs] at hd1 H ⊢
  rw [← hgs] at rd H
  clear hl2 hl3 hd2 hkk hzs hxs hos hfs hgs hl hm1 hm2
  generalize x.bg = v1 at *
  generalize x.wr = v2 at *
  generalize x.st = v3 at *
  generalize x.dn = v4 at *
  refine PCtr.walk tab hΩ fn_laws_FnExactGenChanges rfl ?_
  have htab := tab
  have hmo := hmo
  generalize PP = P at *
  cbv
  refine call_pure hΩ 3 h1 rfl (fits _) rfl rfl ?_
  cbv
  refine br (fun h => ?_) (fun h => ?_)
  · cbv
    exact .same
  have hl0 := ltI_f hΩ h
  cbv
  refine call_pure hΩ 4 (hd1 hl0) rfl (fits _) rfl rfl ?_
  cbv
  refine br (fun h => ?_) (fun h => ?_)
  · cbv
    exact .same
  obtain ⟨⟨a1, a2⟩, ⟨a3, a4⟩, ⟨a5, a6, a7⟩, ⟨a8, a9⟩, b1, b2⟩ := H hl0 (ltI_f hΩ h)
  clear H
  have lo : Ω.len os = os.length := by subst hΩ; rfl
  have lg : Ω.len gs = gs.length := by subst hΩ; rfl
  have lz : Ω.len zs = zs.length := by subst hΩ; rfl
  have lb : Ω.len zs = bs.length := lz.trans hbl.symm
  have e3 : ∀ {S : State} {r q : Nat}, Fw.rowAt S.rows r = some ⟨8, os, false⟩ → Fw.rowAt S.rows q = some ⟨2, gs, false⟩ → mapO (roO S 5) [.vw r 0 (Ω.len os), .agg [.vw q 0 (Ω.len gs), i64 v1, i64 v2, i64 v3, boo v4], i64 a, i64 b] = some [.sl false 8 xs, .agg [.sl false 2 fs, i64 v1, i64 v2, i64 v3, boo v4], i64 a, i64 b] := fun h1 h2 => mapO_cons (ro_vw h1 lo hof) (mapO_cons (ro_agg5 (ro_vw h2 lg hgf) rfl rfl rfl rfl) rfl)
  have e6 : ∀ {S : State} {r q : Nat}, Fw.rowAt S.rows r = some ⟨8, os, false⟩ → Fw.rowAt S.rows q = some ⟨8, os, false⟩ → mapO (roO S 5) [.vw r 0 (Ω.len os), .vw q 0 (Ω.len os)] = some [.sl false 8 xs, .sl false 8 xs] := fun h1 h2 => mapO2 (ro_vw h1 lo hof) (ro_vw h2 lo hof)
  have e7 : ∀ {S : State} {r q : Nat}, Fw.rowAt S.rows r = some ⟨2, gs, false⟩ → Fw.rowAt S.rows q = some ⟨2, gs, false⟩ → mapO (roO S 5) [.agg [.vw r 0 (Ω.len gs), i64 v1, i64 v2, i64 v3, boo v4], .agg [.vw q 0 (Ω.len gs), i64 v1, i64 v2, i64 v3, boo v4]] = some [.agg [.sl false 2 fs, i64 v1, i64 v2, i64 v3, boo v4], .agg [.sl false 2 fs, i64 v1, i64 v2, i64 v3, boo v4]] := fun h1 h2 => mapO2 (ro_agg5 (ro_vw h1 lg hgf) rfl rfl rfl rfl) (ro_agg5 (ro_vw h2 lg hgf) rfl rfl rfl rfl)
  cbv
  refine ⟨VC.sub (VC_plC htab hΩ hmo (.q 0 (.q 2 (.q 4 (.q 5 (.two 1 (.two 3 (.two 6 (.s 7 (.s 8 .fin)) 7 (.s 6 (.s 8 .fin))) 7 (.s 3 (.s 6 (.s 8 .fin)))) 7 (.s 1 (.s 3 (.s 6 (.s 8 .fin))))))))) ⟨[(0, .sl false 8 xs), (2, i64 a), (3, i64 b), (5, .rp [.sl false 2 fs, i64 v1, i64 v2, i64 v3, boo v4]), (10, .pt 4 0 0)], 102, [none, some ⟨8, os, false⟩, some ⟨2, gs, false⟩, some ⟨8, zs, false⟩, some ⟨3, [.agg [i64 kk, i64 0, .vw 3 0 (Ω.len zs)]], true⟩]⟩ (by kernel_rfl) ?_ ?_) ((Sbs.unlk (r := 0) rfl rfl).trans (Sbs.thaw0 (r := 0) rfl rfl rfl))⟩
  · cbv
    repeat' (first
    | (refine call_pure hΩ 5 a1 rfl (fits _) ro rfl ?_; cbv)
    | (refine call_pure hΩ 5 a2 rfl (fits _) rd rfl ?_; cbv)
    | (refine call_pure hΩ 5 a3 (e3 rfl rfl) (fits _) rz rfl ?_; cbv)
    | (refine And.intro ?_ ?_)
    | (exact Sbs.mk rfl rfl ⟨rfl, rfl, rfl, rfl, rfl, trivial⟩)
    | (exact (Sbs.mv (a := 3) (b := 0) rfl rfl (Nat.le_of_ble_eq_true rfl)).trans ((Sbs.mv (a := 4) (b := 3) rfl rfl (Nat.le_of_ble_eq_true rfl)).trans ((Sbs.mv (a := 0) (b := 4) rfl rfl (Nat.le_of_ble_eq_true rfl)).trans (Sbs.mk rfl rfl ⟨rfl, rfl, rfl, rfl, rfl, trivial⟩))))
    | (exact (Sbs.mv (a := 2) (b := 0) rfl rfl (Nat.le_of_ble_eq_true rfl)).trans ((Sbs.mv (a := 3) (b := 2) rfl rfl (Nat.le_of_ble_eq_true rfl)).trans ((Sbs.mv (a := 4) (b := 3) rfl rfl (Nat.le_of_ble_eq_true rfl)).trans ((Sbs.mv (a := 0) (b := 4) rfl rfl (Nat.le_of_ble_eq_true rfl)).trans (Sbs.mk rfl rfl ⟨rfl, rfl, rfl, rfl, rfl, trivial⟩)))))
    | (exact (Sbs.mv (a := 1) (b := 0) rfl rfl (Nat.le_of_ble_eq_true rfl)).trans ((Sbs.mv (a := 2) (b := 1) rfl rfl (Nat.le_of_ble_eq_true rfl)).trans ((Sbs.mv (a := 3) (b := 2) rfl rfl (Nat.le_of_ble_eq_true rfl)).trans ((Sbs.mv (a := 4) (b := 3) rfl rfl (Nat.le_of_ble_eq_true rfl)).trans ((Sbs.mv (a := 0) (b := 4) rfl rfl (Nat.le_of_ble_eq_true rfl)).trans (Sbs.mk rfl rfl ⟨rfl, rfl, rfl, rfl, rfl, trivial⟩)))))))
  cbv
  repeat' (first
    | (refine call_pure hΩ 5 a1 rfl (fits _) ro rfl ?_; cbv)
    | (refine call_pure hΩ 5 a2 rfl (fits _) rd rfl ?_; cbv)
    | (refine call_pure hΩ 5 a4 (e3 rfl rfl) (fits _) rz rfl ?_; cbv)
    | (refine call_pure hΩ 5 a5 (mapO2 (ro_agg3 rfl rfl (ro_vw rfl lz hzf)) (ro_agg3 rfl rfl (ro_vw rfl lz hzf))) (fits _) rfl rfl ?_; cbv)
    | (refine call_pure hΩ 5 a6 (e6 rfl rfl) (fits _) rfl rfl ?_; cbv)
    | (refine br (fun h => (notT hΩ h).elim) (fun h => ?_); cbv))
  refine ⟨VC_plC htab hΩ hmo (.q 1 (.two 0 (.s 2 (.s 3 (.s 4 .fin))) 2 (.s 0 (.s 3 (.s 4 .fin))))) ⟨[(0, .sl false 8 xs), (2, i64 a), (3, i64 b), (5, .rp [.sl false 2 fs, i64 v1, i64 v2, i64 v3, boo v4]), (10, .pt 4 0 0), (11, .vw 5 0 (Ω.len os)), (12, .pt 7 0 0), (13, .pt 9 0 0), (57, boo (Ω.not true))], 102, [none, some ⟨8, os, false⟩, some ⟨2, gs, false⟩, some ⟨8, zs, false⟩, some ⟨3, [.agg [i64 kk, i64 0, .vw 3 0 (Ω.len zs)]], true⟩, some ⟨8, os, false⟩, some ⟨2, gs, false⟩, some ⟨5, [.agg [.vw 6 0 (Ω.len gs), i64 v1, i64 v2, i64 v3, boo v4]], true⟩, some ⟨8, zs, false⟩, some ⟨3, [.agg [i64 kk, i64 0, .vw 8 0 (Ω.len zs)]], true⟩]⟩ (by kernel_rfl) ?_ ?_⟩
  · cbv
    repeat' (first
    | (refine call_pure hΩ 5 a2 rfl (fits _) rd rfl ?_; cbv)
    | (refine call_pure hΩ 5 a7 (e7 rfl rfl) (fits _) rfl rfl ?_; cbv)
    | (refine And.intro ?_ ?_)
    | exact (Sbs.cut 10 rfl).trans (Sbs.mk rfl rfl ⟨rfl, rfl, rfl, rfl, rfl, rfl, rfl, rfl, rfl, trivial⟩))
  cbv
  refine br (fun h => (notT hΩ h).elim) (fun h => ?_)
  cbv
  refine call_eat2 (row := ⟨8, os, false⟩) hΩ 3 a8 rfl rfl lo rfl (fits _) rfl rfl ?_
  cbv
  refine call_eatA (row := ⟨2, gs, false⟩) hΩ 5 a9 rfl rfl lg rfl (fits _) rfl (fits _) rfl rfl ?_
  cbv
  refine br (fun h => absurd (ltI_t hΩ h) (Int.not_lt.2 hm20)) (fun h => ?_)
  cbv
  refine call_pure hΩ 5 a5 (mapO2 (ro_agg3 rfl rfl (ro_vw rfl lz hzf)) (ro_agg3 rfl rfl (ro_vw rfl lz hzf))) (fits _) rfl rfl ?_
  cbv
  refine brF (by subst hΩ; rfl) ?_
  cbv
  refine call_mut hΩ 3 (l := ([] ++ ([] ++ ([(8, bs)] ++ []))) ++ ([] ++ [])) b1 (.cons (.agg (.cons (.data rfl rfl) (.cons (.data rfl rfl) (.cons (mutVw rfl lz hbl) .nil)))) (.cons (.data rfl rfl) .nil)) (by simp) rfl ?_
  cbv
  refine call_pure hΩ 5 b2 (mapO2 (ro_agg3 rfl rfl (ro_vw rfl lb hbf)) rfl) (fits _) rfl rfl ?_
  cbv
  refine br (fun h => absurd (ltI_t hΩ h) (Int.not_lt.2 hm30)) (fun h => ?_)
  cbv
  refine brF (neF hΩ rfl) ?_
  cbv
  refine ⟨VC_plC htab hΩ hmo (.q 0 (.q 2 (.q 4 (.q 5 (.two 1 (.two 3 (.two 6 (.s 7 (.s 8 .fin)) 7 (.s 6 (.s 8 .fin))) 7 (.s 3 (.s 6 (.s 8 .fin)))) 7 (.s 1 (.s 3 (.s 6 (.s 8 .fin))))))))) ⟨[(10, .pt 4 0 0), (13, .pt 9 0 0), (17, .pt 13 0 0), (15, i64 m3)], 102, [none, some ⟨8, os, false⟩, some ⟨2, gs, false⟩, some ⟨8, zs, false⟩, some ⟨3, [.agg [i64 kk, i64 0, .vw 3 0 (Ω.len zs)]], true⟩, none, none, some ⟨5, [.agg [.un, i64 v1, i64 v2, i64 v3, boo v4]], true⟩, some ⟨8, bs, false⟩, some ⟨3, [.agg [i64 kk, i64 0, .vw 8 0 (Ω.len zs)]], true⟩, some ⟨8, os, false⟩, some ⟨2, gs, false⟩, some ⟨8, zs, false⟩, some ⟨3, [.agg [i64 kk, i64 0, .vw 12 0 (Ω.len zs)]], true⟩]⟩ (by kernel_rfl) ?_ ?_⟩
  · cbv
    repeat' (first
    | (refine call_pure hΩ 5 a1 rfl (fits _) ro rfl ?_; cbv)
    | (refine call_pure hΩ 5 a2 rfl (fits _) rd rfl ?_; cbv)
    | (refine call_pure hΩ 5 a4 (e3 rfl rfl) (fits _) rz rfl ?_; cbv)
    | (refine And.intro ?_ ?_)
    | (exact Sbs.mk rfl rfl ⟨rfl, rfl, rfl, rfl, trivial⟩)
    | (exact (Sbs.mv (a := 12) (b := 0) rfl rfl (Nat.le_of_ble_eq_true rfl)).trans ((Sbs.mv (a := 13) (b := 12) rfl rfl (Nat.le_of_ble_eq_true rfl)).trans ((Sbs.mv (a := 0) (b := 13) rfl rfl (Nat.le_of_ble_eq_true rfl)).trans (Sbs.mk rfl rfl ⟨rfl, rfl, rfl, rfl, trivial⟩))))
    | (exact (Sbs.mv (a := 11) (b := 0) rfl rfl (Nat.le_of_ble_eq_true rfl)).trans ((Sbs.mv (a := 12) (b := 11) rfl rfl (Nat.le_of_ble_eq_true rfl)).trans ((Sbs.mv (a := 13) (b := 12) rfl rfl (Nat.le_of_ble_eq_true rfl)).trans ((Sbs.mv (a := 0) (b := 13) rfl rfl (Nat.le_of_ble_eq_true rfl)).trans (Sbs.mk rfl rfl ⟨rfl, rfl, rfl, rfl, trivial⟩)))))
    | (exact (Sbs.mv (a := 10) (b := 0) rfl rfl (Nat.le_of_ble_eq_true rfl)).trans ((Sbs.mv (a := 11) (b := 10) rfl rfl (Nat.le_of_ble_eq_true rfl)).trans ((Sbs.mv (a := 12) (b := 11) rfl rfl (Nat.le_of_ble_eq_true rfl)).trans ((Sbs.mv (a := 13) (b := 12) rfl rfl (Nat.le_of_ble_eq_true rfl)).trans ((Sbs.mv (a := 0) (b := 13) rfl rfl (Nat.le_of_ble_eq_true rfl)).trans (Sbs.mk rfl rfl ⟨rfl, rfl, rfl, rfl, trivial⟩)))))))
  cbv
  refine call_pure hΩ 5 a5 (mapO2 (ro_agg3 rfl rfl (ro_vw rfl lz hzf)) (ro_agg3 rfl rfl (ro_vw rfl lz hzf))) (fits _) rfl rfl ?_
  cbv
  refine br (fun h => (notT hΩ h).elim) (fun h => ?_)
  cbv
  refine call_pure hΩ 5 b2 (mapO2 (ro_agg3 rfl rfl (ro_vw rfl lb hbf)) rfl) (fits _) rfl rfl ?_
  cbv
  refine br (fun h => absurd (ltI_t hΩ h) (Int.not_lt.2 hm30)) (fun h => ?_)
  cbv
  refine brF (neF hΩ rfl) ?_
  cbv
  exact .same
end Go.Proofs.YtidlnilcdmhkiaaGreatDoor

/- What a reading of an argument says of it: it is read-only plain data. Plain theorems, no condition. -/
set_option linter.unusedVariables false
set_option linter.unusedSimpArgs false
namespace Go.Fw
/-- Types of plain data. -/
inductive Ty where
  | int (k : IntKind)
  | bool
  | str
  | sl (e : Ty)
  | st (fs : List Ty)
mutual
def Ty.n : Ty → Nat
  | .st fs => Ty.nL fs
  | .int _ => 1
  | .bool => 1
  | .str => 1
  | .sl _ => 1
def Ty.nL : List Ty → Nat
  | [] => 0
  | x :: xs => x.n + Ty.nL xs
end
def Ty.elem (e : Ty) (cs : List A) : A :=
  match e with
  | .st _ => .agg cs
  | _ => cs.headD .un
mutual
def TyOK (P : Program) : Ty → TypeId → Prop
  | .int k, t => P.underlying t = some (.int k)
  | .bool, t => P.underlying t = some .bool
  | .str, t => P.underlying t = some .string
  | .sl e, t => ∃ te, P.underlying t = some (.slice te) ∧ P.cellsOf te = e.n ∧ Nat.ble 1 e.n = true ∧ TyOK P e te
  | .st fs, t => ∃ f, P.underlying t = some (.struct f) ∧ P.cellsOf t = Ty.nL fs ∧ TysOK P 0 fs f.toList
def TysOK (P : Program) : Nat → List Ty → List Field → Prop
  | _, [], [] => True
  | o, x :: xs, f :: fs => f.offset = o ∧ P.cellsOf f.type = x.n ∧ TyOK P x f.type ∧ TysOK P (o + x.n) xs fs
  | _, _, _ => False
end
mutual
inductive Shp : Ty → List A → Prop
  | int {k : IntKind} {n : Int} (h : (Lit.int k n).wf = true) : Shp (.int k) [.sc (.int k n)]
  | bool {b : Bool} : Shp .bool [.sc (.bool b)]
  | str {s : List UInt8} (h : s.length ≤ maxLen) : Shp .str [.sc (.string (mkS s))]
  | sl {e : Ty} {ys : List A} (h : ∀ y ∈ ys, Shp e y.cells) (h2 : ∀ y ∈ ys, y = e.elem y.cells) (hl : ys.length ≤ maxLen) : Shp (.sl e) [.sl false e.n ys]
  | st {fs : List Ty} {xs : List A} (h : ShpL fs xs) : Shp (.st fs) xs
inductive ShpL : List Ty → List A → Prop
  | nil : ShpL [] []
  | cons {t : Ty} {ts : List Ty} {xs ys : List A} (h : Shp t xs) (hl : ShpL ts ys) : ShpL (t :: ts) (xs ++ ys)
end
mutual
theorem Shp.length : ∀ {t : Ty} {xs : List A}, Shp t xs → xs.length = t.n
  | _, _, .int _ => rfl
  | _, _, .bool => rfl
  | _, _, .str _ => rfl
  | _, _, .sl _ _ _ => rfl
  | _, _, .st h => by rw [Ty.n]; exact h.length
theorem ShpL.length : ∀ {ts : List Ty} {xs : List A}, ShpL ts xs → xs.length = Ty.nL ts
  | _, _, .nil => rfl
  | _, _, .cons h hl => by rw [List.length_append, h.length, hl.length, Ty.nL]
end
theorem elem_cells {e : Ty} {cs : List A} (h : Shp e cs) : (e.elem cs).cells = cs := by
  cases h <;> rfl
theorem cells_list {w : World} {base : Nat} {a : Addr} {n : Nat} {cs : List Value} (h : w.cells? base a n = some cs) (hn : 0 < n) :
    ∃ cur e fr, w.heap[a.block]? = some (.cells cur e fr) ∧ a.spot = none ∧ cs = (cur.toList.drop a.off).take n ∧ cs.length = n := by
  unfold World.cells? at h
  split at h <;> try simp at h
  have hget : ∀ (l : List Nat) (r : List Value), l.mapM (fun i => w.cell? (a.add i)) = some r → r.length = l.length ∧ ∀ (j i : Nat), l[j]? = some i → ∃ v, r[j]? = some v ∧ w.cell? (a.add i) = some v := by
    intro l
    induction l with
    | nil => intro r h; simp at h; subst h; simp
    | cons x l ih =>
      intro r h
      simp only [List.mapM_cons, Option.bind_eq_bind, Option.pure_def, Option.bind_eq_some_iff, Option.some.injEq] at h
      obtain ⟨v, hv, r', hr', rfl⟩ := h
      obtain ⟨h1, h2⟩ := ih r' hr'
      refine ⟨by simp [h1], fun j i hj => ?_⟩
      cases j with
      | zero => simp at hj; subst hj; exact ⟨v, rfl, hv⟩
      | succ j => simpa using h2 j i (by simpa using hj)
  obtain ⟨hl, hat⟩ := hget _ _ h
  rw [List.length_range] at hl
  obtain ⟨v0, _, hv0⟩ := hat 0 0 (by rw [List.getElem?_range hn])
  have hblk : ∀ i, (a.add i).block = a.block := fun i => by unfold Addr.add; split <;> rfl
  unfold World.cell? at hv0
  rw [hblk] at hv0
  split at hv0 <;> try simp at hv0
  rename_i cur e fr hh
  have hsp : a.spot = none := by
    cases hs : a.spot with
    | none => rfl
    | some s => simp [Addr.add, hs] at hv0
  refine ⟨cur, e, fr, hh, hsp, ?_, hl⟩
  have ha : a = ⟨a.block, a.off, none⟩ := by cases a; simp at hsp; subst hsp; rfl
  have hcell : ∀ i, w.cell? (a.add i) = cur[a.off + i]? := fun i => by rw [ha, add_none, cell_at hh]
  have hlen : a.off + n ≤ cur.size := by
    obtain ⟨v, _, hv⟩ := hat (n - 1) (n - 1) (by rw [List.getElem?_range (by omega)])
    rw [hcell] at hv
    have := (Array.getElem?_eq_some_iff.1 hv).1
    omega
  apply List.ext_getElem?
  intro j
  by_cases hj : j < n
  · obtain ⟨v, hv1, hv2⟩ := hat j j (by rw [List.getElem?_range hj])
    rw [hv1, List.getElem?_take_of_lt hj, List.getElem?_drop]
    rw [hcell] at hv2
    simpa using hv2.symm
  · rw [List.getElem?_eq_none (by omega), List.getElem?_eq_none (by simp; omega)]
theorem add_block (a : Addr) (i : Nat) : (a.add i).block = a.block := by unfold Addr.add; split <;> rfl
theorem rows_rel {w : World} {G : Nat → Prop} {n : Nat} {X : Nat → List A} {l : List Value} : ∀ len : Nat, (∀ i, i < len → RelL w G (X i) ((l.drop (i * n)).take n) []) → RelL w G ((List.range len).flatMap X) (l.take (len * n)) []
  | 0, _ => by simpa using RelL.nil
  | len + 1, h => by
    have h1 := rows_rel (X := X) len fun i hi => h i (by omega)
    have h2 := h1.append (h len (by omega))
    rw [List.range_succ, List.flatMap_append, Nat.succ_mul, List.take_add]
    simpa using h2
mutual
theorem trod_rel {H : Type} {enc : TypeId × Value → H} {P : Program} {w : World} {base : Nat} {sp : Nat → Bool} {held : Bool} (hsp : ∀ b, sp b = true) :
    ∀ (ty : Ty) (t : TypeId) (fuel : Nat) (cs : List Value) (x : DataW H × List MemPlace), TyOK P ty t → DataW.trod enc P w base sp held fuel t cs = some x → ∃ xs, RelL w (Old w) xs cs [] ∧ Shp ty xs
  | .int k, t, 0, cs, x, hu, h => by simp [DataW.trod] at h
  | .int k, t, fuel + 1, cs, x, hu, h => by
    have hu : P.underlying t = some (.int k) := hu
    unfold DataW.trod at h
    rw [hu] at h
    split at h <;> try simp_all
    obtain ⟨⟨rfl, hw⟩, _⟩ := h
    exact ⟨_, .cons (F := []) (Fs := []) (.sc rfl) .nil, .int hw⟩
  | .bool, t, 0, cs, x, hu, h => by simp [DataW.trod] at h
  | .bool, t, fuel + 1, cs, x, hu, h => by
    have hu : P.underlying t = some .bool := hu
    unfold DataW.trod at h
    rw [hu] at h
    split at h <;> try simp_all
    exact ⟨_, .cons (F := []) (Fs := []) (.sc rfl) .nil, .bool⟩
  | .str, t, 0, cs, x, hu, h => by simp [DataW.trod] at h
  | .str, t, fuel + 1, cs, x, hu, h => by
    have hu : P.underlying t = some .string := hu
    unfold DataW.trod at h
    rw [hu] at h
    split at h <;> try simp_all
    rename_i s
    refine ⟨[.sc (.string (mkS (bs s)))], .cons (F := []) (Fs := []) (.sc rfl) .nil, .str ?_⟩
    rw [bs_length]; exact h.1
  | .sl e, t, fuel, cs, x, hu, h => by
    obtain ⟨te, hu, hc, hpos, hte⟩ := hu
    have hpos := Nat.le_of_ble_eq_true hpos
    rcases Go.Deep.open_slice hu h with ⟨rfl, _⟩ | ⟨a, len, cap, m, n, D, Pl, rfl, _, hl, hm, hmm, _, hel⟩
    · exact ⟨[.sl false e.n []], .cons (F := []) (Fs := []) .nils .nil, .sl (by simp) (by simp) (by simp)⟩
    · rw [hsp, if_pos rfl] at hmm
      subst hmm
      rw [hc] at hel
      by_cases hm0 : m = 0
      · subst hm0
        have : len = 0 := by omega
        subst this
        exact ⟨[.sl false e.n []], .cons (F := []) (Fs := []) .roz .nil, .sl (by simp) (by simp) (by simp)⟩
      · obtain ⟨cs0, hc0, _⟩ := hel 0 (by omega)
        obtain ⟨cur, et, fr, hh, hspot, _, _⟩ := cells_list hc0 hpos
        rw [add_block] at hh
        have hspot' : a.spot = none := by
          cases hs : a.spot with
          | none => rfl
          | some s => simp [Addr.add, hs] at hspot
        have ha : a = ⟨a.block, a.off, none⟩ := by cases a; simp at hspot'; subst hspot'; rfl
        have hX : ∀ i, i < m → ∃ xs, RelL w (Old w) xs ((cur.toList.drop (a.off + i * e.n)).take e.n) [] ∧ Shp e xs := fun i hi => by
          obtain ⟨csi, hci, hti⟩ := hel i hi
          obtain ⟨cur', et', fr', hh', _, hcs, _⟩ := cells_list hci hpos
          rw [add_block, hh] at hh'
          simp only [Option.some.injEq, Obj.cells.injEq] at hh'
          obtain ⟨rfl, _, _⟩ := hh'
          obtain ⟨xs, h1, h2⟩ := trod_rel hsp e te n csi _ hte hti
          refine ⟨xs, ?_, h2⟩
          rw [hcs] at h1
          have : (a.add (i * e.n)).off = a.off + i * e.n := by rw [ha, add_none]
          rw [this] at h1
          exact h1
        let X : Nat → List A := fun i => if h : i < m then Classical.choose (hX i h) else []
        have hX1 : ∀ i, i < m → RelL w (Old w) (X i) ((cur.toList.drop (a.off + i * e.n)).take e.n) [] ∧ Shp e (X i) := fun i hi => by
          have : X i = Classical.choose (hX i hi) := by simp only [X]; rw [dif_pos hi]
          rw [this]; exact Classical.choose_spec (hX i hi)
        have hmem : ∀ y ∈ (List.range len).map fun i => e.elem (X i), Shp e y.cells ∧ y = e.elem y.cells := fun y hy => by
          obtain ⟨i, hi, rfl⟩ := List.mem_map.1 hy
          have hi := List.mem_range.1 hi
          have hs := (hX1 i (by omega)).2
          rw [elem_cells hs]
          exact ⟨hs, rfl⟩
        refine ⟨[.sl false e.n ((List.range len).map fun i => e.elem (X i))], .cons (F := []) (Fs := []) ?_ .nil, .sl (fun y hy => (hmem y hy).1) (fun y hy => (hmem y hy).2) (by simp; omega)⟩
        have hlt : a.block < w.heap.size := (Array.getElem?_eq_some_iff.1 hh).1
        rw [ha]
        refine .ro hh hlt (fun y hy => ?_) (by simp) rfl ?_ (by omega) (by omega)
        · have := (hmem y hy).1.length
          exact this
        · have hf : flat ((List.range len).map fun i => e.elem (X i)) = (List.range len).flatMap X := by
            unfold flat
            rw [List.flatMap_map]
            have : ∀ l : List Nat, (∀ i ∈ l, i < m) → l.flatMap (fun i => (e.elem (X i)).cells) = l.flatMap X := by
              intro l
              induction l with
              | nil => intro _; rfl
              | cons i l ih =>
                intro hl
                rw [List.flatMap_cons, List.flatMap_cons, ih fun j hj => hl j (by simp [hj]), elem_cells (hX1 i (hl i (by simp))).2]
            exact this _ fun i hi => by have := List.mem_range.1 hi; omega
          rw [hf]
          refine rows_rel len fun i hi => ?_
          have := (hX1 i (by omega)).1
          rw [← List.drop_drop] at this
          exact this
  | .st fs, t, 0, cs, x, hu, h => by simp [DataW.trod] at h
  | .st fs, t, fuel + 1, cs, x, hu, h => by
    obtain ⟨f, hu, hc, hfs⟩ := hu
    unfold DataW.trod at h
    rw [hu] at h
    simp only at h
    split at h <;> try simp at h
    rename_i hlen
    obtain ⟨ys, hys, _⟩ := h
    obtain ⟨xs, h1, h2⟩ := trod_rels hsp fs f.toList fuel 0 cs ys hfs (by rw [hlen, hc]; omega) hys
    exact ⟨xs, by simpa using h1, .st h2⟩
theorem trod_rels {H : Type} {enc : TypeId × Value → H} {P : Program} {w : World} {base : Nat} {sp : Nat → Bool} {held : Bool} (hsp : ∀ b, sp b = true) :
    ∀ (tys : List Ty) (fs : List Field) (fuel o : Nat) (cs : List Value) (ys : List (DataW H × List MemPlace)), TysOK P o tys fs → cs.length = o + Ty.nL tys →
      fs.mapM (fun f => DataW.trod enc P w base sp held fuel f.type ((cs.drop f.offset).take (P.cellsOf f.type))) = some ys → ∃ xs, RelL w (Old w) xs (cs.drop o) [] ∧ ShpL tys xs
  | [], [], fuel, o, cs, ys, _, hl, _ => ⟨[], by rw [List.drop_eq_nil_of_le (by rw [hl, Ty.nL]; omega)]; exact .nil, .nil⟩
  | [], _ :: _, fuel, o, cs, ys, hu, hl, h => hu.elim
  | _ :: _, [], fuel, o, cs, ys, hu, hl, h => hu.elim
  | ty :: tys, f :: fs, fuel, o, cs, ys, hu, hl, h => by
    obtain ⟨ho, hc, ht, hts⟩ := hu
    simp only [List.mapM_cons, Option.bind_eq_bind, Option.pure_def, Option.bind_eq_some_iff, Option.some.injEq] at h
    obtain ⟨y, hy, ys', hys', _⟩ := h
    rw [ho, hc] at hy
    obtain ⟨xs1, h1, h2⟩ := trod_rel hsp ty f.type fuel _ _ ht hy
    rw [Ty.nL] at hl
    obtain ⟨xs2, h3, h4⟩ := trod_rels hsp tys fs fuel (o + ty.n) cs ys' hts (by omega) hys'
    refine ⟨xs1 ++ xs2, ?_, .cons h2 h4⟩
    have := h1.append h3
    rw [← List.drop_drop, List.take_append_drop] at this
    simpa using this
end
end Go.Fw

/- The closing of a law's row. Plain theorems, no condition. -/
set_option linter.unusedVariables false
set_option linter.unusedSimpArgs false
namespace Go.Fw
open Go.ChangeShapes Go.WideShapes Go.ChangeAt Go.RowKit
def PlainT (P : Program) (t : TypeId) : Prop := ∃ ty, TyOK P ty t
theorem tys_fields {P : Program} : ∀ {tys : List Ty} {fs : List Field} {o : Nat}, TysOK P o tys fs → (∀ f ∈ fs, PlainT P f.type) ∧ Ty.nL tys = (fs.map fun f => P.cellsOf f.type).sum ∧
    ∀ (j : Nat) f, fs[j]? = some f → f.offset = o + ((fs.take j).map fun f => P.cellsOf f.type).sum
  | [], [], o, _ => ⟨by simp, rfl, by simp⟩
  | [], _ :: _, o, h => h.elim
  | _ :: _, [], o, h => h.elim
  | ty :: tys, f :: fs, o, h => by
    obtain ⟨h1, h2, h3, h4⟩ := h
    obtain ⟨g1, g2, g3⟩ := tys_fields h4
    refine ⟨fun f' hf => ?_, by rw [Ty.nL, g2, ← h2]; simp, fun j f' hj => ?_⟩
    · rcases List.mem_cons.1 hf with rfl | hf
      · exact ⟨ty, h3⟩
      · exact g1 f' hf
    · cases j with
      | zero => simp at hj; subst hj; simp [h1]
      | succ j =>
        have := g3 j f' (by simpa using hj)
        rw [this, ← h2]; simp; omega
theorem kids (P : Program) : Kids P (PlainT P) := by
  refine ⟨?_, ?_, ?_, ?_, ?_⟩
  · rintro t e ⟨ty, h⟩ hu
    cases ty with
    | sl _ => obtain ⟨te, h, _⟩ := h; rw [hu] at h; simp at h
    | st _ => obtain ⟨f, h, _⟩ := h; rw [hu] at h; simp at h
    | _ => rw [TyOK, hu] at h; simp at h
  · rintro t e ⟨ty, h⟩ hu
    cases ty with
    | sl e' => obtain ⟨te, h, _, _, h2⟩ := h; rw [hu] at h; simp at h; subst h; exact ⟨e', h2⟩
    | st _ => obtain ⟨f, h, _⟩ := h; rw [hu] at h; simp at h
    | _ => rw [TyOK, hu] at h; simp at h
  · rintro t e n ⟨ty, h⟩ hu
    cases ty with
    | sl _ => obtain ⟨te, h, _⟩ := h; rw [hu] at h; simp at h
    | st _ => obtain ⟨f, h, _⟩ := h; rw [hu] at h; simp at h
    | _ => rw [TyOK, hu] at h; simp at h
  · rintro t fs ⟨ty, h⟩ hu
    cases ty with
    | sl _ => obtain ⟨te, h, _⟩ := h; rw [hu] at h; simp at h
    | st tys =>
      obtain ⟨f, h, hc, hts⟩ := h
      rw [hu] at h
      simp at h
      subst h
      obtain ⟨g1, g2, g3⟩ := tys_fields hts
      exact ⟨g1, by rw [hc, g2], fun j f hj => by rw [g3 j f hj, Nat.zero_add]⟩
    | _ => rw [TyOK, hu] at h; simp at h
  · rintro t k e ⟨ty, h⟩ hu
    cases ty with
    | sl _ => obtain ⟨te, h, _⟩ := h; rw [hu] at h; simp at h
    | st _ => obtain ⟨f, h, _⟩ := h; rw [hu] at h; simp at h
    | _ => rw [TyOK, hu] at h; simp at h
theorem plain_sz {P : Program} {t e : TypeId} (h : PlainT P t) (hu : P.underlying t = some (.slice e)) : 0 < P.cellsOf e := by
  obtain ⟨ty, h⟩ := h
  cases ty with
  | sl _ => obtain ⟨te, h, hc, hb, _⟩ := h; rw [hu] at h; simp at h; subst h; rw [hc]; exact Nat.le_of_ble_eq_true hb
  | st _ => obtain ⟨f, h, _⟩ := h; rw [hu] at h; simp at h
  | _ => rw [TyOK, hu] at h; simp at h
section
variable {H : Type} {enc : TypeId × Value → H} {P : Program}
theorem stays_all {W W' : World} {sp' : Nat → Bool} : ∀ {ts : List TypeId} {vs : List Value} {ds : List (DataW H)} {ps : List MemPlace}, (∀ t ∈ ts, PlainT P t) → DataW.TrodAll enc P W 0 (fun _ => true) true ts vs ds ps →
    (∀ p ∈ ps, W.sameAt W' p) → (∀ p ∈ ps, sp' p.block = true) → DataW.TrodAll enc P W' 0 sp' true ts vs ds ps
  | [], [], [], ps, _, h, _, _ => h
  | t :: ts, v :: vs, d :: ds, ps, ht, h, hsame, hs => by
    obtain ⟨p, q, ⟨n, hn⟩, hl, rfl⟩ := h
    refine ⟨p, q, ⟨n, ?_⟩, stays_all (fun t h => ht t (by simp [h])) hl (fun x hx => hsame x (by simp [hx])) (fun x hx => hs x (by simp [hx])), rfl⟩
    exact DataW.trod_stays (kids P) plain_sz (by simp) (ht t (by simp)) hn (fun x hx => hsame x (by simp [hx])) (fun x hx => hs x (by simp [hx]))
theorem post_law {f : Func} {s : ChangeSpec} {apart fresh handsOn again : Bool} {W W' : World} {args : Array Value} {ds gs : List (DataW H)} {before : List MemPlace} {tb : TypeId} (hsv : s.vars = [])
    (hW : DataW.Whole enc P f.params.toList s.vars apart W args.toList ds gs before) (htys : ∀ t ∈ f.params.toList, PlainT P t) (hrt : f.resultTypes = #[tb]) (hub : P.underlying tb = some .bool)
    (hfn : s.fn H (ds ++ gs) = { results := [.lit (.bool true)], args := ds }) (hb : Below W.heap.size W W') : s.post enc P f apart fresh handsOn again W args (.bool true) W' := by
  have hW0 := hW
  obtain ⟨p, q, hA, hV, rfl, hfz, hnd⟩ := hW
  rw [hsv] at hV
  obtain ⟨rfl, rfl⟩ := trodVars_none hV
  rw [List.append_nil] at hfz hnd hW0
  have hlt := hW0.lt
  have hsame : ∀ x ∈ p, W.sameAt W' x := fun x hx => hb.same (hlt x hx)
  have hres : ∀ (b : Nat) (sp : Nat → Bool) (hd : Bool), DataW.TrodAll enc P W' b sp hd f.resultTypes.toList ((Value.bool true).resultList f.resultTypes.size) (s.fn H (ds ++ [])).results [] := fun b sp hd => by
    rw [hfn, hrt]
    exact trodAll_cons_mk (shut_bool hub _) trodAll_mk0
  have hargs : ∀ sp : Nat → Bool, (∀ x ∈ p, sp x.block = true) → DataW.TrodAll enc P W' 0 sp true f.params.toList args.toList (s.fn H (ds ++ [])).args p := fun sp hs => by
    rw [hfn]; exact stays_all htys hA hsame hs
  have hvars : ∀ sp : Nat → Bool, DataW.TrodVars enc P W' sp s.vars (s.fn H (ds ++ [])).vars [] := fun sp => by rw [hfn, hsv]; rfl
  have hold : ∀ x ∈ p, (fun b => decide (b < W.heap.size)) x.block = true := fun x hx => by simpa using hlt x hx
  refine ⟨ds, [], p, [], p, [], hW0, hres _ _ _, hargs _ hold, hvars _, World.keptBut_mono (fun x hx => ⟨hx, .inr (.inl hx)⟩) (hb.frame (· ∈ p)), fun _ => ?_⟩
  refine ⟨?_, _, _, ([] ++ p) ++ [], ⟨[] ++ p, [], trodAll_append (hargs _ (fun _ _ => rfl)) (hres 0 (fun _ => true) true), hvars _, rfl, ?_, ?_⟩, ?_⟩
  · intro j t r h1 h2
    exact ok_one (v := .bool true) hrt rfl (okWide_bool_mk hub true) j t r h1 h2
  · intro b off hp
    have hp' : MemPlace.cell b off ∈ p := by simpa using hp
    rw [hb.frozen (p := ⟨b, off, none⟩) (hlt _ hp')]
    exact hfz b off hp'
  · intro ha
    simpa using hnd ha
  · intro x hx _
    simpa using hx
end
mutual
def tyChk (P : Program) : Ty → TypeId → Bool
  | .int k, t => match P.underlying t with | some (.int k') => decide (k' = k) | _ => false
  | .bool, t => match P.underlying t with | some .bool => true | _ => false
  | .str, t => match P.underlying t with | some .string => true | _ => false
  | .sl e, t => match P.underlying t with | some (.slice te) => P.cellsOf te == e.n && (Nat.ble 1 e.n && tyChk P e te) | _ => false
  | .st fs, t => match P.underlying t with | some (.struct f) => P.cellsOf t == Ty.nL fs && tysChk P 0 fs f.toList | _ => false
def tysChk (P : Program) : Nat → List Ty → List Field → Bool
  | _, [], [] => true
  | o, x :: xs, f :: fs => f.offset == o && (P.cellsOf f.type == x.n && (tyChk P x f.type && tysChk P (o + x.n) xs fs))
  | _, _, _ => false
end
mutual
theorem tyChk_ok {P : Program} : ∀ (ty : Ty) (t : TypeId), tyChk P ty t = true → TyOK P ty t
  | .int k, t, h => by
    rw [tyChk] at h; split at h <;> try simp at h
    rename_i hu; subst h; rw [TyOK]; exact hu
  | .bool, t, h => by
    rw [tyChk] at h; split at h <;> try simp at h
    rename_i hu; rw [TyOK]; exact hu
  | .str, t, h => by
    rw [tyChk] at h; split at h <;> try simp at h
    rename_i hu; rw [TyOK]; exact hu
  | .sl e, t, h => by
    rw [tyChk] at h; split at h <;> try simp at h
    rename_i te hu; rw [TyOK]
    exact ⟨te, hu, h.1, by simpa using h.2.1, tyChk_ok e te h.2.2⟩
  | .st fs, t, h => by
    rw [tyChk] at h; split at h <;> try simp at h
    rename_i f hu; rw [TyOK]
    exact ⟨f, hu, h.1, tysChk_ok fs _ _ h.2⟩
theorem tysChk_ok {P : Program} : ∀ (tys : List Ty) (o : Nat) (fs : List Field), tysChk P o tys fs = true → TysOK P o tys fs
  | [], _, [], _ => by rw [TysOK]; trivial
  | [], _, _ :: _, h => by simp [tysChk] at h
  | _ :: _, _, [], h => by simp [tysChk] at h
  | x :: xs, o, f :: fs, h => by
    rw [tysChk] at h
    simp only [Bool.and_eq_true, beq_iff_eq] at h
    rw [TysOK]
    exact ⟨h.1, h.2.1, tyChk_ok x _ h.2.2.1, tysChk_ok xs _ fs h.2.2.2⟩
end
theorem slice_cells {P : Program} {W : World} {base : Nat} {t e : TypeId} {v : Value} (hu : P.underlying t = some (.slice e)) (h : Value.okWide P W .any base t v) : v.cells.toList = [v] := by
  unfold Value.okWide at h
  rw [hu] at h
  simp only at h
  unfold Cell.okWide at h
  rw [hu] at h
  cases v <;> first | rfl | (simp [Cell.ok, hu] at h)
end Go.Fw

/- Shapes of arguments. Plain theorems. -/
set_option linter.unusedVariables false
set_option linter.unusedSimpArgs false
namespace Go.Proofs.YtidlnilcdmhkiaaGreatDoor
open Go Go.Fw
open Go.ChangeShapes Go.WideShapes Go.ChangeAt Go.RowKit
def tyVer : Ty := .st [.int .i64, .int .i64, .int .i64]
def tyTrm : Ty := .st [.str, tyVer, tyVer]
def tyPck : Ty := .st [.str, tyVer, .int .i64, .sl .str, .sl (.sl tyTrm), .sl tyTrm]
theorem shp_i64 {xs : List A} (h : Shp (.int .i64) xs) : ∃ x, xs = [i64 x] := by cases h; exact ⟨_, rfl⟩
theorem shp_str {xs : List A} (h : Shp .str xs) : ∃ x, xs = [str x] ∧ x.length ≤ Go.maxLen := by cases h; exact ⟨_, rfl, by assumption⟩
theorem shp_Ver {xs : List A} (h : Shp tyVer xs) : ∃ v : Ver, xs = v.cells := by
  cases h with | st h =>
  cases h with | cons h1 h =>
  cases h with | cons h2 h =>
  cases h with | cons h3 h =>
  cases h
  obtain ⟨a, rfl⟩ := shp_i64 h1
  obtain ⟨b, rfl⟩ := shp_i64 h2
  obtain ⟨c, rfl⟩ := shp_i64 h3
  exact ⟨⟨a, b, c⟩, rfl⟩
theorem shp_Trm {xs : List A} (h : Shp tyTrm xs) : ∃ v : Trm, xs = v.cells ∧ v.n.length ≤ Go.maxLen := by
  cases h with | st h =>
  cases h with | cons h1 h =>
  cases h with | cons h2 h =>
  cases h with | cons h3 h =>
  cases h
  obtain ⟨n, rfl, hn⟩ := shp_str h1
  obtain ⟨o, rfl⟩ := shp_Ver h2
  obtain ⟨w, rfl⟩ := shp_Ver h3
  exact ⟨⟨n, o, w⟩, rfl, hn⟩
theorem maps_of {α : Type} {f : α → A} {p : α → Prop} : ∀ {ys : List A}, (∀ y ∈ ys, ∃ c, y = f c ∧ p c) → ∃ cs : List α, ys = cs.map f ∧ ∀ c ∈ cs, p c
  | [], _ => ⟨[], rfl, by simp⟩
  | y :: ys, h => by
    obtain ⟨c, rfl, hc⟩ := h y (by simp)
    obtain ⟨cs, rfl, hcs⟩ := maps_of (ys := ys) fun z hz => h z (by simp [hz])
    exact ⟨c :: cs, rfl, fun z hz => by exact (List.mem_cons.1 hz).elim (fun e => e ▸ hc) (hcs z)⟩
theorem shp_sl {e : Ty} {xs : List A} (h : Shp (.sl e) xs) {α : Type} {f : α → A} {p : α → Prop} (hf : ∀ y, Shp e y.cells → y = e.elem y.cells → ∃ c, y = f c ∧ p c) : ∃ cs : List α, xs = [.sl false e.n (cs.map f)] ∧ cs.length ≤ Go.maxLen ∧ ∀ c ∈ cs, p c := by
  cases h with | sl h1 h2 hl =>
  rename_i ys
  obtain ⟨cs, rfl, hp⟩ := maps_of (f := f) (p := p) (ys := ys) fun y hy => hf y (h1 y hy) (h2 y hy)
  exact ⟨cs, rfl, by simpa using hl, hp⟩
theorem shp_strS {xs : List A} (h : Shp (.sl .str) xs) : ∃ cs : List (List UInt8), xs = [.sl false 1 (cs.map str)] ∧ cs.length ≤ Go.maxLen ∧ ∀ c ∈ cs, c.length ≤ Go.maxLen :=
  shp_sl h fun y h1 h2 => by
    obtain ⟨v, hv, hp⟩ := shp_str h1
    exact ⟨v, by rw [h2, hv]; rfl, hp⟩
theorem shp_TrmS {xs : List A} (h : Shp (.sl tyTrm) xs) : ∃ cs : List Trm, xs = [.sl false 7 (cs.map Trm.enc)] ∧ cs.length ≤ Go.maxLen ∧ ∀ c ∈ cs, c.n.length ≤ Go.maxLen :=
  shp_sl h fun y h1 h2 => by
    obtain ⟨v, hv, hp⟩ := shp_Trm h1
    exact ⟨v, by rw [h2, hv]; rfl, hp⟩
theorem shp_TrmSS {xs : List A} (h : Shp (.sl (.sl tyTrm)) xs) : ∃ cs : List (List Trm), xs = [.sl false 1 (cs.map (encTs false))] ∧ cs.length ≤ Go.maxLen ∧ ∀ c ∈ cs, c.length ≤ Go.maxLen ∧ ∀ t ∈ c, t.n.length ≤ Go.maxLen :=
  shp_sl h fun y h1 h2 => by
    obtain ⟨v, hv, hp⟩ := shp_TrmS h1
    exact ⟨v, by rw [h2, hv]; rfl, hp⟩
theorem shp_Pck {xs : List A} (h : Shp tyPck xs) : ∃ v : Pck, xs = v.cells false ∧ v.Fit := by
  cases h with | st h =>
  cases h with | cons h1 h =>
  cases h with | cons h2 h =>
  cases h with | cons h3 h =>
  cases h with | cons h4 h =>
  cases h with | cons h5 h =>
  cases h with | cons h6 h =>
  cases h
  obtain ⟨n, rfl, hn⟩ := shp_str h1
  obtain ⟨v, rfl⟩ := shp_Ver h2
  obtain ⟨s, rfl⟩ := shp_i64 h3
  obtain ⟨p, rfl, hp⟩ := shp_strS h4
  obtain ⟨d, rfl, hd⟩ := shp_TrmSS h5
  obtain ⟨b, rfl, hb⟩ := shp_TrmS h6
  exact ⟨⟨n, v, s, p, d, b⟩, rfl, ⟨hn, hp, hd, hb⟩⟩
theorem shp_PckS {xs : List A} (h : Shp (.sl tyPck) xs) : ∃ cs : List Pck, xs = [.sl false 8 (cs.map (Pck.enc false))] ∧ cs.length ≤ Go.maxLen ∧ ∀ c ∈ cs, c.Fit :=
  shp_sl h fun y h1 h2 => by
    obtain ⟨v, hv, hp⟩ := shp_Pck h1
    exact ⟨v, by rw [h2, hv]; rfl, hp⟩
/-- Bytes. -/
theorem shp_bytes {xs : List A} (h : Shp (.sl (.int .u8)) xs) : ∃ bs : List A, xs = [.sl false 1 bs] ∧ bs.length ≤ Go.maxLen ∧ ∀ i, i < bs.length → ∃ c : UInt8, bs[i]? = some (.sc (.int .u8 (c.toNat : Int))) := by
  cases h with | sl h1 h2 hl =>
  rename_i ys
  refine ⟨ys, rfl, hl, fun i hi => ?_⟩
  obtain ⟨y, hy⟩ : ∃ y, ys[i]? = some y := ⟨_, List.getElem?_eq_getElem hi⟩
  have hm := List.mem_of_getElem? hy
  have e := h2 y hm
  have s := h1 y hm
  generalize y.cells = cs at *
  cases s with
  | int hwf =>
    rename_i n
    have hb : 0 ≤ n ∧ n < 256 := by
      simp only [Lit.wf, Bool.and_eq_true, decide_eq_true_eq] at hwf
      have h3 : IntKind.u8.min = 0 := by decide
      have h4 : IntKind.u8.max = 255 := by decide
      omega
    refine ⟨UInt8.ofNat n.toNat, ?_⟩
    rw [hy, e]
    show some (A.sc (.int .u8 n)) = _
    have : ((UInt8.ofNat n.toNat).toNat : Int) = n := by simp; omega
    rw [this]
theorem int_cells {P : Program} {W : World} {base : Nat} {t : TypeId} {k : IntKind} {v : Value} (hu : P.underlying t = some (.int k)) (h : Value.okWide P W .any base t v) : v.cells.toList = [v] := by
  unfold Value.okWide at h
  rw [hu] at h
  simp only at h
  unfold Cell.okWide at h
  rw [hu] at h
  cases v <;> first | rfl | (simp [Cell.ok, hu] at h)
end Go.Proofs.YtidlnilcdmhkiaaGreatDoor

/- Shapes of disks. Plain theorems. -/
set_option linter.unusedVariables false
set_option linter.unusedSimpArgs false
namespace Go.Proofs.YtidlnilcdmhkiaaGreatDoor
open Go Go.Fw
open Go.ChangeShapes Go.WideShapes Go.ChangeAt Go.RowKit
def tyFil : Ty := .st [.str, .sl (.int .u8)]
def tyDsk : Ty := .st [.sl tyFil, .int .i64, .int .i64, .int .i64, .bool]
def isSt : Option TypeDesc → Bool
  | some (.struct _) => true
  | _ => false
theorem agg_cells {P : Program} {W : World} {base : Nat} {t : TypeId} {v : Value} (hu : isSt (P.underlying t) = true) (h : Value.okWide P W .any base t v) : ∃ c, v = .agg c ∧ v.cells.toList = c.toList := by
  unfold Value.okWide at h
  cases hp : P.underlying t with
  | none => rw [hp] at hu; cases hu
  | some q =>
    rw [hp] at hu h
    cases q <;> first | (cases hu; done) | skip
    obtain ⟨c, rfl, -⟩ := h
    exact ⟨c, rfl, rfl⟩
theorem agg_one {w : World} {G : Nat → Prop} {xs : List A} {c : Array Value} (h : RelL w G xs c.toList []) : RelL w G [.agg xs] [.agg c] [] := by
  have := RelL.cons (F := []) (Fs := []) (Rel.agg h) .nil
  simpa using this
theorem shp_bytesU {xs : List A} (h : Shp (.sl (.int .u8)) xs) : ∃ d : List UInt8, xs = [.sl false 1 (d.map byteA)] ∧ d.length ≤ Go.maxLen := by
  obtain ⟨bs, rfl, hl, hb⟩ := shp_bytes h
  suffices hs : ∃ d : List UInt8, bs = d.map byteA by
    obtain ⟨d, rfl⟩ := hs
    exact ⟨d, rfl, by simpa using hl⟩
  clear h hl
  induction bs with
  | nil => exact ⟨[], rfl⟩
  | cons b bs ih =>
    obtain ⟨c, hc⟩ := hb 0 (by simp)
    obtain ⟨d, hd⟩ := ih fun i hi => by
      have := hb (i + 1) (by simpa using hi)
      simpa using this
    exact ⟨c :: d, by rw [List.map_cons, ← hd]; simp at hc; rw [hc]; rfl⟩
theorem shp_bool {xs : List A} (h : Shp .bool xs) : ∃ b : Bool, xs = [boo b] := by cases h; exact ⟨_, rfl⟩
theorem shp_Fil {xs : List A} (h : Shp tyFil xs) : ∃ f : Fil, xs = [str f.p, .sl false 1 (f.d.map byteA)] ∧ f.Fit := by
  cases h with | st h =>
  cases h with | cons h1 h =>
  cases h with | cons h2 h =>
  cases h
  obtain ⟨n, rfl, hn⟩ := shp_str h1
  obtain ⟨d, rfl, hd⟩ := shp_bytesU h2
  exact ⟨⟨n, d⟩, rfl, ⟨hn, hd⟩⟩
theorem shp_Dsk {xs : List A} (h : Shp tyDsk xs) : ∃ x : Dsk, xs = [.sl false 2 (x.f.map (Fil.enc false)), i64 x.bg, i64 x.wr, i64 x.st, boo x.dn] ∧ x.f.length ≤ Go.maxLen ∧ ∀ f ∈ x.f, f.Fit := by
  cases h with | st h =>
  cases h with | cons h1 h =>
  cases h with | cons h2 h =>
  cases h with | cons h3 h =>
  cases h with | cons h4 h =>
  cases h with | cons h5 h =>
  cases h
  obtain ⟨fs, rfl, hl, hf⟩ := shp_sl (f := Fil.enc false) (p := Fil.Fit) h1 fun y h1 h2 => by
    obtain ⟨v, hv, hp⟩ := shp_Fil h1
    exact ⟨v, by rw [h2, hv]; rfl, hp⟩
  obtain ⟨a, rfl⟩ := shp_i64 h2
  obtain ⟨b, rfl⟩ := shp_i64 h3
  obtain ⟨c, rfl⟩ := shp_i64 h4
  obtain ⟨d, rfl⟩ := shp_bool h5
  exact ⟨⟨fs, a, b, c, d⟩, rfl, hl, hf⟩
end Go.Proofs.YtidlnilcdmhkiaaGreatDoor

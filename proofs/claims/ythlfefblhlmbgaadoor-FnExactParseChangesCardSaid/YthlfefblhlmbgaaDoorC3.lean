/- Contracts of functions that write into what they are handed, from a walk. Plain theorems, no condition. -/
import Derived.Test.YthlfefblhlmbgaaDoorC2
import Derived.Test.YthlfefblhlmbgaaDoorProg
import Derived.OrdersHeld
import Derived.Shelf.Strings.SplitCore
import Derived.Shelf.Strings.Search3
import Derived.Shelf.Strings.Count
import Derived.Lib.IndexBytes
import Derived.Lib.SplitLaws
import Derived.Ground.NamesProg
import Derived.Laws.StructEq
set_option linter.unusedVariables false
set_option linter.unusedSimpArgs false
namespace Go.Fw

structure FitLX (us ys : List A) : Prop where
  h : ∃ k, fitA.fitL k us ys
theorem FitLX.same {xs : List A} : FitLX xs xs := ⟨0, fits xs⟩
theorem FitLX.of {xs ys : List A} (h : xs = ys) : FitLX xs ys := h ▸ FitLX.same
def entryM (k N : Nat) (xs : List A) : State :=
  ⟨entryT 0 (rootA.rootL k ⟨[], N, []⟩ xs).1 ++ entryT N (rootA.rootL k ⟨[], N, []⟩ xs).1, N, (rootA.rootL k ⟨[], N, []⟩ xs).2.rows⟩
def vOutM (Ω : Opq) (T : Nat → Option TI) (N : Nat) (S : State) (rs : List ResultVar) (x : A) (outs : List A) : Prop :=
  if S.N = N then vRes T S rs fun zs => if (flat (zs ++ (List.range outs.length).map fun i => lk S.t (S.N + i))).all okCell then
    vStash Ω (flat (zs ++ (List.range outs.length).map fun i => lk S.t (S.N + i))).length S (flat (zs ++ (List.range outs.length).map fun i => lk S.t (S.N + i))) fun ys _ _ =>
      FitX (oneA ((regroup (zs ++ (List.range outs.length).map fun i => lk S.t (S.N + i)) ys).take zs.length)) x ∧ FitLX ((regroup (zs ++ (List.range outs.length).map fun i => lk S.t (S.N + i)) ys).drop zs.length) outs else False else False
def outM (Ω : Opq) (T : Nat → Option TI) (N : Nat) (rs : List ResultVar) (x : A) (outs : List A) : Exit → State → Prop
  | .normal, S | .ret, S => vOutM Ω T N S rs x outs
  | _, _ => False
def vOutX (Ω : Opq) (T : Nat → Option TI) (N : Nat) (S : State) (rs : List ResultVar) (n : Nat) (R : A → List A → Prop) : Prop :=
  if S.N = N then vRes T S rs fun zs => if (flat (zs ++ (List.range n).map fun i => lk S.t (S.N + i))).all okCell then
    vStash Ω (flat (zs ++ (List.range n).map fun i => lk S.t (S.N + i))).length S (flat (zs ++ (List.range n).map fun i => lk S.t (S.N + i))) fun ys _ _ =>
      ∃ x outs, FitX (oneA ((regroup (zs ++ (List.range n).map fun i => lk S.t (S.N + i)) ys).take zs.length)) x ∧ FitLX ((regroup (zs ++ (List.range n).map fun i => lk S.t (S.N + i)) ys).drop zs.length) outs ∧ R x outs ∧ outs.length = n else False else False
theorem vRes_mono {T : Nat → Option TI} {S : State} : ∀ {rs : List ResultVar} {k k' : List A → Prop}, (∀ z, k z → k' z) → vRes T S rs k → vRes T S rs k'
  | [], k, k', hk, h => hk _ h
  | .tmp t :: rs, k, k', hk, h => vRes_mono (rs := rs) (fun z => hk _) h
  | .cell a t :: rs, k, k', hk, h => by
    unfold vRes at h ⊢
    split at h <;> try exact h.elim
    split at h <;> try exact h.elim
    split at h <;> try exact h.elim
    unfold vCell at h ⊢
    simp only at h ⊢
    split at h
    · rename_i hag
      rw [if_pos hag]
      split at h <;> try exact h.elim
      rename_i h1
      rw [if_pos h1]
      split at h <;> try exact h.elim
      rename_i h2
      rw [if_pos h2]
      exact vRes_mono (rs := rs) (fun z => hk _) h
    · rename_i hag
      rw [if_neg hag]
      split at h <;> try exact h.elim
      split at h <;> try exact h.elim
      rename_i h2
      rw [if_pos h2]
      exact vRes_mono (rs := rs) (fun z => hk _) h
theorem vStash_mono {Ω : Opq} : ∀ (n : Nat) (xs : List A) (S : State) {k k' : List A → State → List Nat → Prop}, (∀ a b c, k a b c → k' a b c) → vStash Ω n S xs k → vStash Ω n S xs k'
  | 0, [], S, k, k', hk, h => by unfold vStash at h ⊢; exact hk _ _ _ h
  | n + 1, [], S, k, k', hk, h => by unfold vStash at h ⊢; exact hk _ _ _ h
  | 0, _ :: _, S, k, k', hk, h => by simp [vStash] at h
  | n + 1, x :: xs, S, k, k', hk, h => by
    unfold vStash at h ⊢
    split at h
    · split at h <;> try exact h.elim
      split at h <;> try exact h.elim
      rename_i h1
      try simp only at h ⊢
      rw [if_neg h1]
      exact ⟨h.1, vStash_mono n _ _ (fun a b c => hk _ _ _) h.2⟩
    · split at h <;> try exact h.elim
      split at h <;> try exact h.elim
      rename_i h1
      try simp only at h ⊢
      rw [if_pos h1]
      exact vStash_mono n _ _ (fun a b c => hk _ _ _) h
    · split at h <;> try exact h.elim
      rename_i h1
      try simp only at h ⊢
      rw [if_pos h1]
      exact vStash_mono n _ _ (fun a b c => hk _ _ _) h
theorem vOutM_X {Ω : Opq} {T : Nat → Option TI} {N : Nat} {S : State} {rs : List ResultVar} {x : A} {outs : List A} (h : vOutM Ω T N S rs x outs) {R : A → List A → Prop} (hR : R x outs) : vOutX Ω T N S rs outs.length R := by
  unfold vOutM at h
  unfold vOutX
  split at h <;> try exact h.elim
  rename_i h1
  rw [if_pos h1]
  refine vRes_mono (fun z hz => ?_) h
  split at hz <;> try exact hz.elim
  rename_i h2
  rw [if_pos h2]
  exact vStash_mono _ _ _ (fun a b c h => ⟨x, outs, h.1, h.2, hR, rfl⟩) hz
def outX (Ω : Opq) (T : Nat → Option TI) (N : Nat) (rs : List ResultVar) (n : Nat) (R : A → List A → Prop) : Exit → State → Prop
  | .normal, S | .ret, S => vOutX Ω T N S rs n R
  | _, _ => False
theorem entryT_lk : ∀ (xs : List A) (t : List (Nat × A)) (i j : Nat), lk (entryT i xs ++ t) j = if i ≤ j ∧ j < i + xs.length then xs.getD (j - i) .un else lk t j
  | [], t, i, j => by simp [entryT]; omega
  | x :: xs, t, i, j => by
    simp only [entryT, List.cons_append, lk, entryT_lk xs t (i + 1) j]
    by_cases h : i = j
    · subst h; simp
    · rw [if_neg h]
      by_cases h2 : i + 1 ≤ j ∧ j < i + 1 + xs.length
      · obtain ⟨d, hd⟩ : ∃ d, j - i = d + 1 := ⟨j - i - 1, by omega⟩
        have : j - (i + 1) = d := by omega
        rw [if_pos h2, if_pos ⟨by omega, by simp; omega⟩, hd, this]; simp
      · rw [if_neg h2, if_neg (by simp; omega)]
section
variable {P : Program} {T : Nat → Option TI}
theorem TRelL.get' {G : Nat → Prop} {w : World} {rows : List (Option Row)} {gs : Gh} {xs : List A} {vs : List Value} (h : TRelL w G rows gs xs vs []) (i : Nat) (hi : i < xs.length) : TRel w G rows gs (xs.getD i .un) (vs.getD i undef) [] := by
  obtain ⟨v, h1, h2⟩ := h.get i xs[i] (List.getElem?_eq_getElem hi)
  rw [List.getD_eq_getElem?_getD, List.getD_eq_getElem?_getD, List.getElem?_eq_getElem hi, h1]
  exact h2
theorem XCtr.walkG (hT : TabOK P T) {Ω : Opq} (hΩ : Ω = std) (k : Nat) {g : Nat} {c : Code} {N : Nat} {rs : List ResultVar} {xs : List A} {R : A → List A → Prop} (hf : FnAt P g c N rs) (hN : Nat.ble xs.length N = true)
    (hno : (rootA.rootL k ⟨[], N, []⟩ xs).1.all noOwn = true) {K0 : Exit → State → Prop} (hK0 : ∀ e S', K0 e S' → outX Ω T N rs xs.length R e S') (h : vC Ω P T c (entryM k N xs) K0) : XCtr P g xs R := by
  have hN := Nat.le_of_ble_eq_true hN
  obtain ⟨hen, fn, h1, h2, h3, h4⟩ := hf
  refine ⟨hen, fun w G vs F hG hFnd hFG hl => ?_⟩
  have hlen := hl.length
  have hFlt := hl.lt
  refine calls_of_wp h1 h2 ?_
  generalize htm : vs.toArray ++ Array.replicate (fn.ntmps - vs.toArray.size) undef = tm
  have htms : tm.size = N := by rw [← htm]; simp; omega
  have hinv0 : Inv (P := P) ⟨w, G, (· ∈ F), fun i => vs.getD (i - N) undef⟩ G (fun _ => (none, [])) ⟨[], N, []⟩ tm w := by
    refine ⟨fun _ _ _ => rfl, rfl, rfl, rfl, Nat.le_refl _, htms, fun _ h => h, fun _ h => .inl h, hG, ?_, ?_, ?_, ?_, fun i => .un⟩
    · intro r row hr; simp [rowAt] at hr
    · intro r row hr; simp [rowAt] at hr
    · intro r row hr; simp [rowAt] at hr
    · intro r r' row row' hr; simp [rowAt] at hr
  have hres0 : Res (P := P) ⟨w, G, (· ∈ F), fun i => vs.getD (i - N) undef⟩ G (fun _ => (none, [])) (State.rows ⟨[], N, []⟩) (F ++ []) := by
    rw [List.append_nil]
    exact ⟨hFnd, fun b hb => ⟨hFG b hb, .inl hb⟩, fun r row hr => by simp [rowAt] at hr⟩
  obtain ⟨gs1, r1, r2⟩ := rootL_ok (rootA_ok k) xs ⟨[], N, []⟩ _ vs F [] hinv0 hres0 (fun b hb => hFlt b (by simpa using hb)) hl hno
  have hzl : (rootA.rootL k ⟨[], N, []⟩ xs).1.length = xs.length := by rw [← r2.length, hlen]
  have hi1 := r1.inv
  have hinv : Inv (P := P) ⟨w, G, (· ∈ F), fun i => vs.getD (i - N) undef⟩ G gs1 (entryM k N xs) tm w := by
    refine ⟨hi1.keep, hi1.os, hi1.tape, hi1.output, hi1.size, htms, hi1.gsub, hi1.gnew, hi1.glt, hi1.row, hi1.nod, hi1.own, hi1.dis, fun i => ?_⟩
    show TRel w G (rootA.rootL k ⟨[], N, []⟩ xs).2.rows gs1 (lk (entryT 0 _ ++ entryT N _) i) _ []
    rw [entryT_lk]
    by_cases hi : i < xs.length
    · rw [if_pos ⟨by omega, by rw [hzl]; omega⟩]
      unfold vat
      rw [if_pos (by rw [htms]; omega)]
      have := r2.get' i (by rw [hzl]; exact hi)
      have e : tm.getD i undef = vs.getD i undef := by
        rw [← htm, Array.getD_eq_getD_getElem?, Array.getElem?_append_left (by simp; omega)]
        simp
      rw [e, Nat.sub_zero]; exact this
    · rw [if_neg (by rw [hzl]; omega), lk_entryT]
      by_cases hi2 : N ≤ i ∧ i < N + xs.length
      · rw [if_pos hi2.1]
        unfold vat
        rw [if_neg (by rw [htms]; omega)]
        exact r2.get' (i - N) (by rw [hzl]; omega)
      · have : (if N ≤ i then (rootA.rootL k ⟨[], N, []⟩ xs).1.getD (i - N) .un else .un) = A.un := by
          split
          · rw [List.getD_eq_getElem?_getD, List.getElem?_eq_none (by rw [hzl]; omega)]; rfl
          · rfl
        rw [this]; exact .un
  subst hΩ
  have hwalk := VC.mono (vstart hT rfl h) (K' := outX std T N rs xs.length R) hK0
  refine wp_mono (hwalk ⟨w, G, (· ∈ F), fun i => vs.getD (i - N) undef⟩ { tmps := tm, defers := [] } w ⟨rfl, G, _, hinv⟩) ?_
  rintro e a' w' ⟨S', ⟨hd, G', gs', hi'⟩, hK⟩
  have fin : vOutX std T N S' rs xs.length R → a'.defers = [] ∧ ∃ v, (results fn a'.tmps).run P w' = .ok v w' ∧ (∃ v_1 Fx Fo x outs, R x outs ∧ Ending.returned v = .returned v_1 ∧
      (w'.os = w.os ∧ w'.tape = w.tape ∧ w'.output = w.output ∧ w.heap.size ≤ w'.heap.size ∧ ∀ b, b < w.heap.size → b ∉ F → w'.heap[b]? = w.heap[b]?) ∧
      (Fx ++ Fo).Nodup ∧ (∀ b ∈ Fx ++ Fo, b ∈ F ∨ w.heap.size ≤ b) ∧ Rel w' (fun b => (G b ∨ b ∈ F ∨ (w.heap.size ≤ b ∧ b < w'.heap.size)) ∧ b ∉ Fx ++ Fo) x v_1 Fx ∧
      RelL w' (fun b => (G b ∨ b ∈ F ∨ (w.heap.size ≤ b ∧ b < w'.heap.size)) ∧ b ∉ Fx ++ Fo) outs vs Fo) := by
    intro ho'
    refine ⟨hd, ?_⟩
    unfold vOutX at ho'
    split at ho' <;> try exact ho'.elim
    rename_i hSN
    obtain ⟨zs, us, g1, g2, g3⟩ := vRes_ok hT hi' ho'
    have hgl : TRelL w' G' S'.rows gs' ((List.range xs.length).map fun i => lk S'.t (S'.N + i)) vs [] := by
      have e : vs = (List.range xs.length).map fun i => vat (P := P) ⟨w, G, (· ∈ F), fun i => vs.getD (i - N) undef⟩ a'.tmps (S'.N + i) := by
        have hsz := hi'.sz
        apply List.ext_getElem?
        intro i
        rw [List.getElem?_map]
        by_cases hi : i < xs.length
        · rw [List.getElem?_range hi]
          unfold vat
          rw [Option.map_some, if_neg (by rw [hsz]; omega), hSN]
          show vs[i]? = some (vs.getD (N + i - N) undef)
          rw [Nat.add_sub_cancel_left, List.getD_eq_getElem?_getD, List.getElem?_eq_getElem (by omega)]
          rfl
        · rw [List.getElem?_eq_none (by rw [hlen]; omega), List.getElem?_eq_none (by simp; omega)]; rfl
      have : ∀ l : List Nat, TRelL w' G' S'.rows gs' (l.map fun i => lk S'.t (S'.N + i)) (l.map fun i => vat (P := P) ⟨w, G, (· ∈ F), fun i => vs.getD (i - N) undef⟩ a'.tmps (S'.N + i)) [] := fun l => by
        induction l with
        | nil => exact .nil
        | cons i l ih => exact .cons (F := []) (Fs := []) (hi'.tmp _) ih
      obtain ⟨us, hus⟩ : ∃ us, us = (List.range xs.length).map fun i => vat (P := P) ⟨w, G, (· ∈ F), fun i => vs.getD (i - N) undef⟩ a'.tmps (S'.N + i) := ⟨_, rfl⟩
      have h2 := this (List.range xs.length)
      rw [← hus] at h2
      rw [← hus] at e
      rw [e]; exact h2
    split at g1 <;> try exact g1.elim
    rename_i hok
    obtain ⟨hc, x, outs, hfit, hfits, hR, ho⟩ := vStash_ok _ _ _ _ g1
    obtain ⟨k1, hfit⟩ := hfit.h
    obtain ⟨k2, hfits⟩ := hfits.h
    have hall := g3.append0 hgl
    obtain ⟨Fz, hst, hrel⟩ := stashL_ok _ _ S' _ [] rfl hi' Res.nil (flat_rel hall hok) hc
    rw [List.append_nil] at hst
    have hrg := regroup_rel hall hok hrel
    obtain ⟨Fx, Fo, rfl, q1, q2⟩ := hrg.split_at
    rw [g3.length] at q1 q2
    have hx := fitA_rel k1 _ _ _ _ hfit (oneA_rel q1)
    have hos := fitL_rel (fun x y v F => fitA_rel k2 x y v F) _ _ _ _ hfits q2
    have hGG : ∀ b, G' b → ((G b ∨ b ∈ F ∨ (w.heap.size ≤ b ∧ b < w'.heap.size)) ∧ b ∉ Fx ++ Fo) ∧ w'.heap[b]? = w'.heap[b]? := fun b hb => by
      refine ⟨⟨?_, fun hF => (hst.res.own b hF).1 hb⟩, rfl⟩
      rcases hi'.gnew b hb with h | h | h
      · exact .inl h
      · exact .inr (.inl h)
      · exact .inr (.inr ⟨h, hi'.glt b hb⟩)
    exact ⟨oneV us, h4 _ _ _ g2, _, Fx, Fo, x, outs, hR, rfl, ⟨hi'.os, hi'.tape, hi'.output, hi'.size, fun b hb hF => hi'.keep b hb hF⟩, hst.res.nod, fun b hb => (hst.res.own b hb).2, hx.move_ hGG (fun _ _ => rfl), hos.move_ hGG (fun _ _ => rfl)⟩
  cases e with
  | normal => exact fin hK
  | ret => exact fin hK
  | _ => exact hK.elim
theorem XCtr.walk (hT : TabOK P T) {Ω : Opq} (hΩ : Ω = std) (k : Nat) {g : Nat} {c : Code} {N : Nat} {rs : List ResultVar} {xs : List A} {R : A → List A → Prop} (hf : FnAt P g c N rs) (hN : Nat.ble xs.length N = true)
    (hno : (rootA.rootL k ⟨[], N, []⟩ xs).1.all noOwn = true) (h : vC Ω P T c (entryM k N xs) (outX Ω T N rs xs.length R)) : XCtr P g xs R := XCtr.walkG hT hΩ k hf hN hno (fun _ _ h => h) h
theorem MCtr.walk (hT : TabOK P T) {Ω : Opq} (hΩ : Ω = std) (k : Nat) {g : Nat} {c : Code} {N : Nat} {rs : List ResultVar} {xs : List A} {x : A} {outs : List A} (hf : FnAt P g c N rs) (hN : Nat.ble xs.length N = true)
    (hno : (rootA.rootL k ⟨[], N, []⟩ xs).1.all noOwn = true) (ho : outs.length = xs.length) (h : vC Ω P T c (entryM k N xs) (outM Ω T N rs x outs)) : MCtr P g xs x outs := by
  refine (XCtr.walkG hT hΩ k hf hN hno (R := fun x' o' => x' = x ∧ o' = outs) (fun e S' h => ?_) h).m
  cases e <;> first | exact ho ▸ vOutM_X h ⟨rfl, rfl⟩ | exact h
end
end Go.Fw

/- The same rules with lengths kept shut. Plain theorems, no condition. -/
set_option linter.unusedVariables false
set_option linter.unusedSimpArgs false
namespace Go.Fw
def rootO (Ω : Opq) : Nat → State → A → A × State
  | 0, S, x => (x, S)
  | k + 1, S, x => match x with
    | .sl true n xs => (.vw S.rows.length 0 (Ω.len xs), S.addRow ⟨n, xs, false⟩)
    | .bx xs => (.pt S.rows.length 0 0, S.addRow ⟨xs.length, [.agg xs], true⟩)
    | .agg xs => (.agg (rootOL k S xs).1, (rootOL k S xs).2)
    | .tup xs => (.tup (rootOL k S xs).1, (rootOL k S xs).2)
    | x => (x, S)
where rootOL (k : Nat) (S : State) : List A → List A × State
    | [] => ([], S)
    | x :: xs => ((rootO Ω k S x).1 :: (rootOL k (rootO Ω k S x).2 xs).1, (rootOL k (rootO Ω k S x).2 xs).2)
theorem rootOL_std {k : Nat} (ih : ∀ S x, rootO std k S x = rootA k S x) : ∀ (xs : List A) (S : State), rootO.rootOL std k S xs = rootA.rootL k S xs
  | [], S => by rw [rootO.rootOL, rootA.rootL]
  | x :: xs, S => by rw [rootO.rootOL, rootA.rootL, ih, rootOL_std ih xs]
theorem rootO_std : ∀ (k : Nat) (S : State) (x : A), rootO std k S x = rootA k S x
  | 0, S, x => by rw [rootO, rootA]
  | k + 1, S, x => by
    have ih := rootOL_std (rootO_std k)
    unfold rootO rootA
    cases x with
    | sl o n xs => cases o <;> rfl
    | agg xs => simp only; rw [ih]
    | tup xs => simp only; rw [ih]
    | _ => rfl
def entryO (Ω : Opq) (k N : Nat) (xs : List A) : State :=
  ⟨entryT 0 (rootO.rootOL Ω k ⟨[], N, []⟩ xs).1 ++ entryT N (rootO.rootOL Ω k ⟨[], N, []⟩ xs).1, N, (rootO.rootOL Ω k ⟨[], N, []⟩ xs).2.rows⟩
section
variable {P : Program} {T : Nat → Option TI} {S : State} {Ω : Opq}
theorem call_pure (hΩ : Ω = std) (k : Nat) {g : Nat} {args ys0 ys : List A} {x : A} {K : A → State → Prop} (hc : PCtr P g ys x) (h1 : mapO (roO S k) args = some ys0) (h2 : fitA.fitL k ys0 ys) (hx : roFree x = true)
    (hno : noOwn (rootO Ω k S x).1 = true) (hK : K (rootO Ω k S x).1 (rootO Ω k S x).2) : CallX P g args S K := by
  subst hΩ
  rw [rootO_std] at hno hK
  exact ⟨CallOK_pure hc h1 h2 hx hno hK⟩
theorem call_share (hΩ : Ω = std) (k : Nat) {g : Nat} {args ys : List A} {x : A} {K : A → State → Prop} (hc : PCtr P g ys x) (h1 : args.all isData = true) (h2 : fitA.fitL k args ys)
    (hno : noOwn (rootO Ω k S x).1 = true) (hK : K (rootO Ω k S x).1 (rootO Ω k S x).2) : CallX P g args S K := by
  subst hΩ
  rw [rootO_std] at hno hK
  exact ⟨CallOK_share hc h1 h2 hno hK⟩
theorem call_mut (hΩ : Ω = std) (k : Nat) {g : Nat} {args ys outs : List A} {x : A} {l : List (Nat × List A)} {K : A → State → Prop} (hc : MCtr P g ys x outs) (hm : MutL S args ys outs l) (hnd : (l.map (·.1)).Nodup)
    (hno : noOwn (rootO Ω k (S.mut l) x).1 = true) (hK : K (rootO Ω k (S.mut l) x).1 (rootO Ω k (S.mut l) x).2) : CallX P g args S K := by
  subst hΩ
  rw [rootO_std] at hno hK
  exact ⟨CallOK_mut hc hm hnd hno hK⟩
theorem MCtr.walkO (hT : TabOK P T) (hΩ : Ω = std) (k : Nat) {g : Nat} {c : Code} {N : Nat} {rs : List ResultVar} {xs : List A} {x : A} {outs : List A} (hf : FnAt P g c N rs) (hN : Nat.ble xs.length N = true)
    (hno : (rootO.rootOL Ω k ⟨[], N, []⟩ xs).1.all noOwn = true) (ho : outs.length = xs.length) (h : vC Ω P T c (entryO Ω k N xs) (outM Ω T N rs x outs)) : MCtr P g xs x outs := by
  have e := rootOL_std (rootO_std k)
  refine MCtr.walk hT hΩ k hf hN ?_ ho ?_
  · subst hΩ; rw [← e]; exact hno
  · have : entryO Ω k N xs = entryM k N xs := by subst hΩ; unfold entryO entryM; rw [e]
    rw [← this]; exact h
theorem XCtr.walkO (hT : TabOK P T) (hΩ : Ω = std) (k : Nat) {g : Nat} {c : Code} {N : Nat} {rs : List ResultVar} {xs : List A} {R : A → List A → Prop} (hf : FnAt P g c N rs) (hN : Nat.ble xs.length N = true)
    (hno : (rootO.rootOL Ω k ⟨[], N, []⟩ xs).1.all noOwn = true) (h : vC Ω P T c (entryO Ω k N xs) (outX Ω T N rs xs.length R)) : XCtr P g xs R := by
  have e := rootOL_std (rootO_std k)
  refine XCtr.walk hT hΩ k hf hN ?_ ?_
  · subst hΩ; rw [← e]; exact hno
  · have : entryO Ω k N xs = entryM k N xs := by subst hΩ; unfold entryO entryM; rw [e]
    rw [← this]; exact h
end
end Go.Fw

/- Calls that are handed own data for good. Plain theorems, no condition. -/
set_option linter.unusedVariables false
set_option linter.unusedSimpArgs false
namespace Go.Fw
/-- A contract of a function that is handed own data for good: what comes back may hold them. -/
structure ECtr (P : Program) (g : Nat) (args : List A) (x : A) : Prop where
  enter : Enter P g
  run : ∀ (w : World) (G : Nat → Prop) (vs : List Value) (F : List Nat), GoodG P w G → F.Nodup → (∀ b ∈ F, ¬ G b) → RelL w G args vs F → Calls P g vs.toArray w (fun e w' => ∃ v Fx, e = .returned v ∧
    (w'.os = w.os ∧ w'.tape = w.tape ∧ w'.output = w.output ∧ w.heap.size ≤ w'.heap.size ∧ ∀ b, b < w.heap.size → b ∉ F → w'.heap[b]? = w.heap[b]?) ∧
    Fx.Nodup ∧ (∀ b ∈ Fx, b ∈ F ∨ w.heap.size ≤ b) ∧ Rel w' (fun b => (G b ∨ b ∈ F ∨ (w.heap.size ≤ b ∧ b < w'.heap.size)) ∧ b ∉ Fx) x v Fx)
def entryE (Ω : Opq) (k N : Nat) (xs : List A) : State := ⟨entryT 0 (rootO.rootOL Ω k ⟨[], N, []⟩ xs).1, N, (rootO.rootOL Ω k ⟨[], N, []⟩ xs).2.rows⟩
section
variable {P : Program} {T : Nat → Option TI} {S : State} {Ω : Opq}
theorem ECtr.walk (hT : TabOK P T) (hΩ : Ω = std) (k : Nat) {g : Nat} {c : Code} {N : Nat} {rs : List ResultVar} {xs : List A} {x : A} (hf : FnAt P g c N rs) (hN : Nat.ble xs.length N = true)
    (hno : (rootO.rootOL Ω k ⟨[], N, []⟩ xs).1.all noOwn = true) (h : vC Ω P T c (entryE Ω k N xs) (outV Ω T rs x)) : ECtr P g xs x := by
  subst hΩ
  have hroot := rootOL_std (rootO_std k)
  unfold entryE at h
  rw [hroot] at h hno
  have hN := Nat.le_of_ble_eq_true hN
  obtain ⟨hen, fn, h1, h2, h3, h4⟩ := hf
  refine ⟨hen, fun w G vs F hG hFnd hFG hl => ?_⟩
  have hlen := hl.length
  have hFlt := hl.lt
  refine calls_of_wp h1 h2 ?_
  generalize htm : vs.toArray ++ Array.replicate (fn.ntmps - vs.toArray.size) undef = tm
  have htms : tm.size = N := by rw [← htm]; simp; omega
  have hinv0 : Inv (P := P) ⟨w, G, (· ∈ F), fun _ => undef⟩ G (fun _ => (none, [])) ⟨[], N, []⟩ tm w := by
    refine ⟨fun _ _ _ => rfl, rfl, rfl, rfl, Nat.le_refl _, htms, fun _ h => h, fun _ h => .inl h, hG, ?_, ?_, ?_, ?_, fun i => .un⟩
    · intro r row hr; simp [rowAt] at hr
    · intro r row hr; simp [rowAt] at hr
    · intro r row hr; simp [rowAt] at hr
    · intro r r' row row' hr; simp [rowAt] at hr
  have hres0 : Res (P := P) ⟨w, G, (· ∈ F), fun _ => undef⟩ G (fun _ => (none, [])) (State.rows ⟨[], N, []⟩) (F ++ []) := by
    rw [List.append_nil]
    exact ⟨hFnd, fun b hb => ⟨hFG b hb, .inl hb⟩, fun r row hr => by simp [rowAt] at hr⟩
  obtain ⟨gs1, r1, r2⟩ := rootL_ok (rootA_ok k) xs ⟨[], N, []⟩ _ vs F [] hinv0 hres0 (fun b hb => hFlt b (by simpa using hb)) hl hno
  have hzl : (rootA.rootL k ⟨[], N, []⟩ xs).1.length = xs.length := by rw [← r2.length, hlen]
  have hi1 := r1.inv
  have hinv : Inv (P := P) ⟨w, G, (· ∈ F), fun _ => undef⟩ G gs1 ⟨entryT 0 (rootA.rootL k ⟨[], N, []⟩ xs).1, N, (rootA.rootL k ⟨[], N, []⟩ xs).2.rows⟩ tm w := by
    refine ⟨hi1.keep, hi1.os, hi1.tape, hi1.output, hi1.size, htms, hi1.gsub, hi1.gnew, hi1.glt, hi1.row, hi1.nod, hi1.own, hi1.dis, fun i => ?_⟩
    show TRel w G (rootA.rootL k ⟨[], N, []⟩ xs).2.rows gs1 (lk (entryT 0 _) i) _ []
    rw [lk_entryT, if_pos (Nat.zero_le _), Nat.sub_zero]
    by_cases hi : i < xs.length
    · unfold vat
      rw [if_pos (by rw [htms]; omega)]
      have := r2.get' i (by rw [hzl]; exact hi)
      have e : tm.getD i undef = vs.getD i undef := by
        rw [← htm, Array.getD_eq_getD_getElem?, Array.getElem?_append_left (by simp; omega)]
        simp
      rw [e]; exact this
    · rw [List.getD_eq_getElem?_getD, List.getElem?_eq_none (by omega)]
      exact .un
  refine wp_mono ((VC.mono (vstart hT rfl h) fun e S' h => outV_ok hT h) ⟨w, G, (· ∈ F), fun _ => undef⟩ { tmps := tm, defers := [] } w ⟨rfl, G, _, hinv⟩) ?_
  rintro e a' w' ⟨S', ⟨hd, G', gs', hi'⟩, hK⟩
  have fin : Outs P rs x S' → a'.defers = [] ∧ ∃ v, (results fn a'.tmps).run P w' = .ok v w' ∧ (∃ v_1 Fx, Ending.returned v = .returned v_1 ∧
      (w'.os = w.os ∧ w'.tape = w.tape ∧ w'.output = w.output ∧ w.heap.size ≤ w'.heap.size ∧ ∀ b, b < w.heap.size → b ∉ F → w'.heap[b]? = w.heap[b]?) ∧
      Fx.Nodup ∧ (∀ b ∈ Fx, b ∈ F ∨ w.heap.size ≤ b) ∧ Rel w' (fun b => (G b ∨ b ∈ F ∨ (w.heap.size ≤ b ∧ b < w'.heap.size)) ∧ b ∉ Fx) x v_1 Fx) := by
    intro ho
    refine ⟨hd, ?_⟩
    obtain ⟨vs', zs, Fx, k', g1, g2, g3, g4, g5⟩ := ho _ _ _ _ _ hi'
    refine ⟨oneV vs', h4 _ _ _ g1, _, Fx, rfl, ⟨hi'.os, hi'.tape, hi'.output, hi'.size, fun b hb hF => hi'.keep b hb hF⟩, g3, fun b hb => (g4 b hb).2, ?_⟩
    refine (fitA_rel k' _ _ _ _ g5 (oneA_rel g2)).move_ (fun b hb => ⟨⟨?_, fun hF => (g4 b hF).1 hb⟩, rfl⟩) (fun _ _ => rfl)
    rcases hi'.gnew b hb with h | h | h
    · exact .inl h
    · exact .inr (.inl h)
    · exact .inr (.inr ⟨h, hi'.glt b hb⟩)
  cases e with
  | normal => exact fin hK
  | ret => exact fin hK
  | _ => exact hK.elim
theorem eat_end {E : Env P} {G : Nat → Prop} {gs : Gh} {S1 : State} {tmps : Array Value} {w w' : World} {F Fx : List Nat} {x : A} {v : Value} (k : Nat) (hi1 : Inv E G gs S1 tmps w) (hR : Res E G gs S1.rows F) (hRlt : ∀ b ∈ F, b < w.heap.size)
    (hos : w'.os = w.os) (htape : w'.tape = w.tape) (hout : w'.output = w.output) (hsize : w.heap.size ≤ w'.heap.size) (hold : ∀ b, b < w.heap.size → b ∉ F → w'.heap[b]? = w.heap[b]?)
    (hnd : Fx.Nodup) (hmem : ∀ b ∈ Fx, b ∈ F ∨ w.heap.size ≤ b) (hx : Rel w' (fun b => (G b ∨ b ∈ F ∨ (w.heap.size ≤ b ∧ b < w'.heap.size)) ∧ b ∉ Fx) x v Fx) (hno : noOwn (rootA k S1 x).1 = true) :
    ∃ gs2, Inv E (fun b => (G b ∨ b ∈ F ∨ (w.heap.size ≤ b ∧ b < w'.heap.size)) ∧ b ∉ Fx) gs2 (rootA k S1 x).2 tmps w' ∧ TRel w' (fun b => (G b ∨ b ∈ F ∨ (w.heap.size ≤ b ∧ b < w'.heap.size)) ∧ b ∉ Fx) (rootA k S1 x).2.rows gs2 (rootA k S1 x).1 v [] := by
  have hrow : ∀ r row, rowAt S1.rows r = some row → ∀ b ∈ gs.all r, w'.heap[b]? = w.heap[b]? ∧ b ∉ Fx := fun r row hr b hb => by
    have h1 := hi1.block_lt hr b hb
    have h2 := hR.dis r row hr b hb
    refine ⟨hold b h1 h2, fun hF => ?_⟩
    rcases hmem b hF with h | h
    · exact h2 h
    · omega
  have hGF : ∀ b, G b → b ∉ Fx := fun b h hF => by
    have := hi1.glt b h
    rcases hmem b hF with h2 | h2
    · exact (hR.own b h2).1 h
    · omega
  have hG : ∀ b, G b → ((G b ∨ b ∈ F ∨ (w.heap.size ≤ b ∧ b < w'.heap.size)) ∧ b ∉ Fx) ∧ w'.heap[b]? = w.heap[b]? := fun b h => ⟨⟨.inl h, hGF b h⟩, hold b (hi1.glt b h) fun hF => (hR.own b hF).1 h⟩
  have hle : ∀ r, RowLe w w' S1.rows S1.rows gs gs r := fun r => RowLe.refl_of fun row h => ⟨h, rfl, fun b hob => (hrow r row h b (by simp [Gh.all, hob])).1⟩
  have hi' : Inv E (fun b => (G b ∨ b ∈ F ∨ (w.heap.size ≤ b ∧ b < w'.heap.size)) ∧ b ∉ Fx) gs S1 tmps w' := by
    refine ⟨fun b h hf => ?_, hos.trans hi1.os, htape.trans hi1.tape, hout.trans hi1.output, Nat.le_trans hi1.size hsize, hi1.sz, fun b h => ⟨.inl (hi1.gsub b h), hGF b (hi1.gsub b h)⟩, fun b h => ?_, hi1.glt.move (fun b h => (hG b h).1) (fun b h => (hG b h).2) (fun b h => ?_), fun r row hr => ?_,
      hi1.nod, fun r row hr b hb => ?_, hi1.dis, fun i => (hi1.tmp i).step hG hle (by simp)⟩
    · rw [hold b (Nat.lt_of_lt_of_le h hi1.size) fun hF => ?_]
      · exact hi1.keep b h hf
      · rcases (hR.own b hF).2 with h2 | h2
        · exact hf h2
        · omega
    · rcases h.1 with h | h | h
      · exact hi1.gnew b h
      · exact .inr (hR.own b h).2
      · exact .inr (.inr (Nat.le_trans hi1.size h.1))
    · rcases h.1 with h | h | h
      · exact Nat.lt_of_lt_of_le (hi1.glt b h) hsize
      · exact Nat.lt_of_lt_of_le (hRlt b h) hsize
      · exact h.2
    · exact (hi1.row r row hr).step hG hle fun c hc => (hrow r row hr c hc).1
    · obtain ⟨g1, g2⟩ := hi1.own r row hr b hb
      refine ⟨fun h => ?_, g2⟩
      have := hi1.block_lt hr b hb
      rcases h.1 with h | h | h
      · exact g1 h
      · exact hR.dis r row hr b hb h
      · omega
  have hR' : Res E (fun b => (G b ∨ b ∈ F ∨ (w.heap.size ≤ b ∧ b < w'.heap.size)) ∧ b ∉ Fx) gs S1.rows (Fx ++ []) := by
    rw [List.append_nil]
    refine ⟨hnd, fun b hb' => ⟨fun h => h.2 hb', ?_⟩, fun r row hr b hb1 hb2 => (hrow r row hr b hb1).2 hb2⟩
    rcases hmem b hb' with h2 | h2
    · exact (hR.own b h2).2
    · exact .inr (Nat.le_trans hi1.size h2)
  obtain ⟨gs2, q1, q2⟩ := rootA_ok k S1 gs x v Fx [] hi' hR' (fun b hb' => hx.lt b (by simpa using hb')) hx hno
  exact ⟨gs2, q1.inv, q2⟩
theorem mapO_relG {f : A → Option A} {w : World} {G G' : Nat → Prop} {gs : Gh} {rows : List (Option Row)} (hf : ∀ x v F y, (∀ b ∈ F, G' b) → TRel w G rows gs x v F → f x = some y → Rel w G' y v []) : ∀ {xs : List A} {vs : List Value} {F : List Nat} {ys : List A},
    (∀ b ∈ F, G' b) → TRelL w G rows gs xs vs F → mapO f xs = some ys → RelL w G' ys vs []
  | [], _, _, ys, _, h, hm => by
    cases h
    simp only [mapO, Option.some.injEq] at hm
    subst hm; exact .nil
  | x :: xs, _, _, ys, hF, h, hm => by
    cases h with
    | cons h hl =>
      simp only [mapO] at hm
      cases hx : f x with
      | none => rw [hx] at hm; simp at hm
      | some y =>
        rw [hx] at hm
        cases hxs : mapO f xs with
        | none => rw [hxs] at hm; simp at hm
        | some us =>
          rw [hxs] at hm
          simp only [Option.some.injEq] at hm
          subst hm
          exact .cons (F := []) (Fs := []) (hf _ _ _ _ (fun b hb => hF b (by simp [hb])) h hx) (mapO_relG hf (fun b hb => hF b (by simp [hb])) hl hxs)
theorem roO_relG {E : Env P} {G G' : Nat → Prop} {gs : Gh} {tmps : Array Value} {w : World} (hi : Inv E G gs S tmps w) (hGO : ∀ b, G b → G' b) (hrow : ∀ r row, rowAt S.rows r = some row → ∀ b ∈ gs.all r, G' b) :
    ∀ (k : Nat) (x : A) (v : Value) (F : List Nat) (y : A), (∀ b ∈ F, G' b) → TRel w G S.rows gs x v F → roO S k x = some y → Rel w G' y v [] := by
  intro k
  induction k with
  | zero => intro x v F y _ _ hy; simp [roO] at hy
  | succ k ih =>
    intro x v F y hF h hy
    have plain : ∀ {x : A} {v : Value}, TRel w G S.rows gs x v F → isData x = true → Rel w G' (Fw.frz x) v [] := fun h hd => (h.data hd).frz hGO hF
    cases x with
    | un => simp [roO] at hy
    | sc u =>
      simp only [roO, Option.some.injEq] at hy; subst hy
      have := plain h (isData_sc u); rwa [frz_sc] at this
    | nil =>
      simp only [roO, Option.some.injEq] at hy; subst hy
      have := plain h isData_nil; rwa [frz_nil] at this
    | sl o n xs =>
      cases o with
      | true =>
        simp only [roO, Option.some.injEq] at hy; subst hy
        have := plain h (isData_sl true n xs); rwa [frz_sl] at this
      | false =>
        simp only [roO, Option.some.injEq] at hy; subst hy
        exact (h.data (isData_sl false n xs)).noOwn (by simp [noOwn_sl]) ▸ (h.data (isData_sl false n xs)).move_ (fun b hb => ⟨hGO b hb, rfl⟩) (fun b hb => rfl)
    | rp xs =>
      simp only [roO, Option.some.injEq] at hy; subst hy
      exact (h.data (isData_rp xs)).noOwn (by simp [noOwn_rp]) ▸ (h.data (isData_rp xs)).move_ (fun b hb => ⟨hGO b hb, rfl⟩) (fun b hb => rfl)
    | bx xs =>
      simp only [roO, Option.some.injEq] at hy; subst hy
      have := plain h (isData_bx xs); rwa [frz_bx] at this
    | agg xs =>
      simp only [roO, Option.map_eq_some_iff] at hy
      obtain ⟨ys, h1, rfl⟩ := hy
      obtain ⟨cs, rfl, hl⟩ := agg_inv h
      have := Rel.agg (mapO_relG (G' := G') (fun x v F y hF hx hy => ih x v F y hF hx hy) hF hl h1)
      simpa using this
    | tup xs =>
      simp only [roO, Option.map_eq_some_iff] at hy
      obtain ⟨ys, h1, rfl⟩ := hy
      obtain ⟨cs, rfl, hl⟩ := tup_inv h
      have := Rel.tup (mapO_relG (G' := G') (fun x v F y hF hx hy => ih x v F y hF hx hy) hF hl h1)
      simpa using this
    | clo g xs =>
      simp only [roO, Option.map_eq_some_iff] at hy
      obtain ⟨ys, h1, rfl⟩ := hy
      cases h with
      | of h => cases h with | clo hl => exact .clo (mapO_relG (gs := gs) (rows := S.rows) (G' := G') (fun x v F y hF hx hy => ih x v F y hF hx hy) hF (.of hl) h1)
      | clo hl => exact .clo (mapO_relG (G' := G') (fun x v F y hF hx hy => ih x v F y hF hx hy) hF hl h1)
    | vw r off len =>
      simp only [roO] at hy
      cases hr : rowAt S.rows r with
      | none => simp [hr] at hy
      | some row =>
        simp only [hr] at hy
        split at hy
        · simp at hy
        · rename_i hlk
          simp only [Option.some.injEq] at hy
          subst hy
          rcases vw_inv h with ⟨row', kk, cap, cur, e, b, hr', hob, g1, g2, g3, g4, g5, g6, rfl⟩ | ⟨row', hr', hob, hxs, rfl, rfl, rfl⟩
          · rw [hr] at hr'
            obtain rfl := Option.some.inj hr'
            have hrr := hi.row r row hr
            rw [hob] at hrr
            obtain ⟨cur', e', cap', h1, h2, h3, h4, h5, h6, h7⟩ := hrr.ex
            rw [g2] at h1
            simp only [Option.some.injEq, Obj.cells.injEq] at h1
            obtain ⟨rfl, rfl, _⟩ := h1
            unfold CellsRel at h7
            rw [if_neg hlk] at h7
            obtain ⟨F1, F2, e1, _, k2⟩ := h7.take_ (off * row.n)
            obtain ⟨F3, F4, e2, k3, _⟩ := k2.take_ (len * row.n)
            rw [flat_drop off h5, flat_take len (fun y hy => h5 y (List.mem_of_mem_drop hy))] at k3
            have hle : (off + len) * row.n ≤ row.xs.length * row.n := Nat.mul_le_mul_right _ g1
            rw [Nat.add_mul] at hle
            rw [List.drop_take, List.take_take, Nat.min_eq_left (by omega)] at k3
            have k4 := RelL.frz k3 (G' := G') hGO (fun c hc => hrow r row hr c (by simp [Gh.all, e1, e2, hc]))
            rw [← flat_frz] at k4
            have hlen : len = (((row.xs.drop off).take len).map Fw.frz).length := by simp; omega
            have hw : ∀ y ∈ ((row.xs.drop off).take len).map Fw.frz, y.width = row.n := fun y hy => by
              obtain ⟨z, hz, rfl⟩ := List.mem_map.1 hy
              rw [width_frz]; exact h5 z (List.mem_of_mem_drop (List.mem_of_mem_take hz))
            have hold : G' b := hrow r row hr b (by simp [Gh.all, hob])
            refine .ro g2 hold hw hlen rfl ?_ (by omega) (by omega)
            rcases g6 with hk | hk
            · rw [hk]; exact k4
            · have h0 : len = 0 := by omega
              subst h0
              simpa using k4
          · rw [hr] at hr'
            obtain rfl := Option.some.inj hr'
            simpa using Rel.nils
    | pt r j o =>
      simp only [roO] at hy
      cases hr : rowAt S.rows r with
      | none => simp [hr] at hy
      | some row =>
        simp only [hr] at hy
        by_cases hjo : j < row.xs.length ∧ o ≤ row.n
        case neg => rw [if_neg hjo] at hy; simp at hy
        rw [if_pos hjo] at hy
        obtain ⟨row', b, hr', hb, rfl⟩ := pt_inv h
        rw [hr] at hr'
        obtain rfl := Option.some.inj hr'
        obtain ⟨b', hb', hrc⟩ := row_real hi hr (by omega)
        rw [hb] at hb'
        obtain rfl := Option.some.inj hb'
        obtain ⟨cur, e, cap, h1, h2, h3, h4, h5, h6, h7⟩ := hrc.ex
        have hz : row.xs[j]? = some (row.xs.getD j .un) := by simp [List.getD_eq_getElem?_getD, List.getElem?_eq_getElem hjo.1]
        generalize row.xs.getD j .un = x at hy hz
        have hw := h5 x (List.mem_of_getElem? hz)
        unfold A.width at hw
        have hseg := flat_seg h5 hz o (row.n - o) (by omega)
        have hxl : ((x.cells.drop o).take (row.n - o)) = x.cells.drop o := by rw [List.take_of_length_le (by simp; omega)]
        have hle : (j + 1) * row.n ≤ row.xs.length * row.n := Nat.mul_le_mul_right _ hjo.1
        rw [Nat.add_mul] at hle
        have hcur : ((cur.toList.take (row.xs.length * row.n)).drop (j * row.n + o)).take (row.n - o) = (cur.toList.drop (j * row.n + o)).take (row.n - o) := by
          rw [List.drop_take, List.take_take, Nat.min_eq_left (by omega)]
        have hold : G' b := hrow r row hr b (by simp [Gh.all, hb])
        have hlenx : (x.cells.drop o).length = row.n - o := by simp; omega
        obtain ⟨F1, F2, e1, _, k2⟩ := h7.t.take_ (j * row.n + o)
        obtain ⟨F3, F4, e2, k3, _⟩ := k2.take_ (row.n - o)
        rw [hseg, hxl, hcur] at k3
        by_cases hlk : row.lk = true
        · rw [if_pos hlk] at hy
          simp only [Option.map_eq_some_iff] at hy
          obtain ⟨ys, hm, rfl⟩ := hy
          have k4 := mapO_relG (G' := G') (fun x v F y hF hx hy => ih x v F y hF hx hy) (fun c hc => hrow r row hr c (by simp [Gh.all, e1, e2, hc])) k3 hm
          have hyl : ys.length = row.n - o := by rw [← k4.length, k3.length, hlenx]
          exact .rp h1 hold rfl (by rw [hyl]; exact k4)
        · rw [if_neg hlk] at hy
          simp only [Option.some.injEq] at hy
          subst hy
          unfold CellsRel at h7
          rw [if_neg hlk] at h7
          obtain ⟨F1', F2', e1', _, k2'⟩ := h7.take_ (j * row.n + o)
          obtain ⟨F3', F4', e2', k3', _⟩ := k2'.take_ (row.n - o)
          rw [hseg, hxl, hcur] at k3'
          have k4 := RelL.frz k3' (G' := G') hGO (fun c hc => hrow r row hr c (by simp [Gh.all, e1', e2', hc]))
          exact .rp h1 hold rfl (by rw [List.length_map, hlenx]; exact k4)

/-- One own row is handed over for good, all else is only read. -/
theorem CallOK_eat2 {g k r len : Nat} {row : Row} {rest ys0 ys : List A} {x : A} {K : A → State → Prop} (hc : ECtr P g (.sl true row.n row.xs :: ys) x) (hr : rowAt S.rows r = some row) (hlk : row.lk = false) (hlen : len = row.xs.length)
    (h1 : mapO (roO (S.turn r none) k) (rest.map (kill r)) = some ys0) (h2 : fitA.fitL k ys0 ys) (hxf : roFree x = true) (hno : noOwn (rootA k (S.turn r none) x).1 = true) (hK : K (rootA k (S.turn r none) x).1 (rootA k (S.turn r none) x).2) :
    CallOK P g (.vw r 0 len :: rest) S K := by
  refine ⟨hc.enter, fun E G gs tmps w vs hi hl => ?_⟩
  generalize hF0 : ([] : List Nat) = F0 at hl
  cases hl with
  | cons hv hl =>
    rename_i v0 Fa vs Fb
    have hFF : Fa = [] ∧ Fb = [] := by simpa using hF0.symm
    obtain ⟨rfl, rfl⟩ := hFF
    have hst1 : stash1 S (.vw r 0 len) = (0 = 0 ∧ len ≤ row.xs.length ∧ row.lk = false, .sl true row.n (row.xs.take len), S.turn r none, [r]) := by simp only [stash1, hr]
    obtain ⟨F, hst, hrel⟩ := stash1_ok (R := []) hi Res.nil hv (by rw [hst1]; exact ⟨rfl, by omega, hlk⟩)
    rw [hst1] at hst hrel
    rw [List.take_of_length_le (by omega)] at hrel
    rw [List.append_nil] at hst
    have hi1 : Inv E G gs (S.turn r none) tmps w := hst.inv
    have hR : Res E G gs (S.turn r none).rows F := hst.res
    have hlt : ∀ b ∈ F, b < w.heap.size := hst.lt (by simp)
    have hl' : TRelL w G (S.turn r none).rows gs (rest.map (kill r)) vs [] := by
      have := hst.stepL rest vs hl
      exact this
    have hys := fitL_rel (fun x y v F => fitA_rel k x y v F) ys0 ys vs [] h2 (mapO_relG (G' := fun b => b < w.heap.size ∧ b ∉ F) (fun x v F y hF hx hy => roO_relG hi1 (fun b hb => ⟨hi1.glt b hb, fun hb2 => (hR.own b hb2).1 hb⟩) (fun r row hr b hb => ⟨hi1.block_lt hr b hb, hR.dis r row hr b hb⟩) k x v F y hF hx hy) (by simp) hl' h1)
    have hargs : RelL w (fun b => b < w.heap.size ∧ b ∉ F) (.sl true row.n row.xs :: ys) (v0 :: vs) F := by
      have := RelL.cons (hrel.move_ (w' := w) (G' := fun b => b < w.heap.size ∧ b ∉ F) (fun b hb => ⟨⟨hi1.glt b hb, fun hb2 => (hR.own b hb2).1 hb⟩, rfl⟩) (fun _ _ => rfl)) hys
      simpa using this
    refine Calls.mono (hc.run w (fun b => b < w.heap.size ∧ b ∉ F) (v0 :: vs) F (hi1.glt.move (fun b hb => ⟨hi1.glt b hb, fun hb2 => (hR.own b hb2).1 hb⟩) (fun _ _ => rfl) fun b hb => hb.1) hR.nod (fun b hb h => h.2 hb) hargs) ?_
    rintro e w' ⟨v, Fx, rfl, ⟨hos, htape, hout, hsize, hold⟩, hnd, hmem, hx⟩
    obtain ⟨gs2, q1, q2⟩ := eat_end k hi1 hR hlt hos htape hout hsize hold hnd hmem (hx.anyG hxf _) hno
    exact ⟨v, _, _, _, gs2, rfl, hK, q1, q2⟩
theorem call_eat2 (hΩ : Ω = std) (k : Nat) {g r len : Nat} {row : Row} {rest ys0 ys : List A} {x : A} {K : A → State → Prop} (hc : ECtr P g (.sl true row.n row.xs :: ys) x) (hr : rowAt S.rows r = some row) (hlk : row.lk = false) (hlen : len = row.xs.length)
    (h1 : mapO (roO (S.turn r none) k) (rest.map (kill r)) = some ys0) (h2 : fitA.fitL k ys0 ys) (hxf : roFree x = true) (hno : noOwn (rootO Ω k (S.turn r none) x).1 = true) (hK : K (rootO Ω k (S.turn r none) x).1 (rootO Ω k (S.turn r none) x).2) :
    CallX P g (.vw r 0 len :: rest) S K := by
  subst hΩ
  rw [rootO_std] at hno hK
  exact ⟨CallOK_eat2 hc hr hlk hlen h1 h2 hxf hno hK⟩
end
section
variable {P : Program} {E : Env P} {G : Nat → Prop} {gs : Gh} {S : State} {w : World} {tmps : Array Value}
/-- One cell of a row: what is told of it may be told otherwise. -/
theorem Inv.cell (hi : Inv E G gs S tmps w) {r j q : Nat} {row : Row} {y z : A} (hr : rowAt S.rows r = some row) (hlkr : row.lk = true) (hy : row.xs[j]? = some y) (hz : y.cells[q]? = some z) :
    ∃ b cur e v F1 Fz F3, (gs r).1 = some b ∧ w.heap[b]? = some (.cells cur e (0, 0)) ∧ cur[j * row.n + q]? = some v ∧ cellV v = true ∧ TRel w G S.rows gs z v Fz ∧ (gs r).2 = F1 ++ (Fz ++ F3) ∧
      ∀ z' Fy, z'.cells = [z'] → Res E G gs S.rows Fy → TRel w G S.rows gs z' v Fy → Inv E G (gs.add r (some b) (F1 ++ (Fy ++ F3))) (S.setRow r ⟨row.n, row.xs.set j (newElem y q [z']), true⟩) tmps w ∧
        Res E G (gs.add r (some b) (F1 ++ (Fy ++ F3))) (S.setRow r ⟨row.n, row.xs.set j (newElem y q [z']), true⟩).rows Fz ∧
        ∀ x u, TRel w G S.rows gs x u [] → TRel w G (S.setRow r ⟨row.n, row.xs.set j (newElem y q [z']), true⟩).rows (gs.add r (some b) (F1 ++ (Fy ++ F3))) x u [] := by
  have hj : j < row.xs.length := (List.getElem?_eq_some_iff.1 hy).1
  obtain ⟨b, hb, hrc⟩ := row_real hi hr (by omega)
  obtain ⟨cur, e, cap, h1, h2, h3, h4, h5, h6, h7⟩ := hrc.ex
  have hyw := h5 y (List.mem_of_getElem? hy)
  have hq : q < y.cells.length := (List.getElem?_eq_some_iff.1 hz).1
  unfold A.width at hyw
  have hle : (j + 1) * row.n ≤ row.xs.length * row.n := Nat.mul_le_mul_right _ hj
  rw [Nat.add_mul] at hle
  have hle2 : row.xs.length * row.n ≤ cap * row.n := Nat.mul_le_mul_right _ h3.le
  obtain ⟨F1, F4, e1, k1, k2⟩ := h7.t.take_ (j * row.n + q)
  obtain ⟨Fz, F3, e2, k3, k4⟩ := k2.take_ 1
  rw [List.drop_drop] at k4
  have hseg := flat_seg h5 hy q 1 (by omega)
  have hseg2 : (y.cells.drop q).take 1 = [z] := by
    rw [List.drop_eq_getElem_cons hq]
    rw [List.getElem?_eq_getElem hq] at hz
    simp only [Option.some.injEq] at hz
    simp [hz]
  rw [hseg, hseg2] at k3
  obtain ⟨v, hv⟩ : ∃ v, cur[j * row.n + q]? = some v := ⟨_, Array.getElem?_eq_getElem (by omega)⟩
  have hvs : ((cur.toList.take (row.xs.length * row.n)).drop (j * row.n + q)).take 1 = [v] := by
    rw [List.drop_take, List.take_take, Nat.min_eq_left (by omega)]
    obtain ⟨hv1, hv2⟩ := Array.getElem?_eq_some_iff.1 hv
    rw [List.drop_eq_getElem_cons (by simpa using hv1)]
    simp [hv2]
  rw [hvs] at k3
  have hzv : TRel w G S.rows gs z v Fz := by
    generalize hu : [v] = us at k3
    cases k3 with
    | cons a c =>
      cases c
      cases hu
      simpa using a
  have hcv : cellV v = true := h6 v (by
    have : v ∈ ((cur.toList.take (row.xs.length * row.n)).drop (j * row.n + q)).take 1 := by rw [hvs]; simp
    exact List.mem_of_mem_drop (List.mem_of_mem_take this))
  subst e2
  refine ⟨b, cur, e, v, F1, Fz, F3, hb, h1, hv, hcv, hzv, e1, fun z' Fy hz' hRy hz2 => ?_⟩
  have hcl := newElem_cells' (x := y) (q := q) (ys := [z']) (by unfold A.width; simp; omega) (by simp) (by simpa using hz')
  have hflat := flat_set h5 hy (q := q) (ys := [z']) (by simp; omega) hcl
  have hnod := hi.nod r row hr
  rw [show gs.all r = b :: (F1 ++ (Fz ++ F3)) by simp [Gh.all, hb, e1]] at hnod
  have hnd := (List.nodup_cons.1 hnod).2
  have hdy : ∀ c ∈ b :: (F1 ++ (Fz ++ F3)), c ∉ Fy := fun c hc => hRy.dis r row hr c (by rw [show gs.all r = b :: (F1 ++ (Fz ++ F3)) by simp [Gh.all, hb, e1]]; exact hc)
  refine hi.recast (Fy := Fy) (row' := ⟨row.n, row.xs.set j (newElem y q [z']), true⟩) hr rfl List.length_set hb hRy (R := Fz) (F' := F1 ++ (Fy ++ F3)) (fun c hc => ?_) ?_ ?_
  · rw [e1]
    simp only [List.mem_append] at hc ⊢
    rcases hc with (h | h | h) | h
    · exact .inl (.inl h)
    · exact .inr h
    · exact .inl (.inr (.inr h))
    · exact .inl (.inr (.inl h))
  · rw [List.nodup_append] at hnd ⊢
    obtain ⟨m1, m2, m3⟩ := hnd
    rw [List.nodup_append] at m2
    obtain ⟨m4, m5, m6⟩ := m2
    refine ⟨List.nodup_append.2 ⟨m1, List.nodup_append.2 ⟨hRy.nod, m5, fun a ha c hc h => by subst h; exact hdy a (by simp [hc]) ha⟩, fun a ha c hc h => ?_⟩, m4, fun a ha c hc h => ?_⟩
    · subst h
      rcases List.mem_append.1 hc with hc | hc
      · exact hdy a (by simp [ha]) hc
      · exact m3 a ha a (by simp [hc]) rfl
    · subst h
      rcases List.mem_append.1 ha with ha | ha
      · exact m3 a ha a (by simp [hc]) rfl
      · rcases List.mem_append.1 ha with ha | ha
        · exact hdy a (by simp [hc]) ha
        · exact m6 a hc a ha rfl
  · refine ⟨cur, e, cap, h1, h2, by rw [hlkr] at h3; simpa using h3, h4, ?_, ?_, ?_⟩
    · intro u hu
      rcases List.mem_or_eq_of_mem_set hu with hu | rfl
      · exact h5 u hu
      · show (newElem y q [z']).cells.length = row.n
        rw [hcl]; simp; omega
    · simpa using h6
    · show CellsRel true w G S.rows gs (flat (row.xs.set j (newElem y q [z']))) (cur.toList.take ((row.xs.set j (newElem y q [z'])).length * row.n)) (F1 ++ (Fy ++ F3))
      unfold CellsRel
      rw [if_pos rfl, List.length_set, hflat]
      generalize cur.toList.take (row.xs.length * row.n) = l at hvs k1 k4
      generalize j * row.n + q = p at hvs k1 k4
      have hs1 : l.drop p = [v] ++ (l.drop p).drop 1 := by rw [← hvs, List.take_append_drop]
      have hs2 : l = l.take p ++ ([v] ++ (l.drop p).drop 1) := by rw [← hs1, List.take_append_drop]
      rw [List.append_assoc]
      have := k1.append ((TRelL.cons hz2 .nil).append k4)
      rw [← hs2] at this
      simpa using this
/-- A nil slice in a cell of an own row told as an own row without a block. -/
theorem Sbs.nilCell {r j q n : Nat} {row : Row} {y : A} (hr : rowAt S.rows r = some row) (hy : row.xs[j]? = some y) (hz : y.cells[q]? = some .nil) (hlkr : row.lk = true := by rfl) :
    Sbs S ((S.addRow ⟨n, [], false⟩).setRow r ⟨row.n, row.xs.set j (newElem y q [.vw S.rows.length 0 0]), true⟩) := by
  intro P E a w ⟨hd, G, gs, hi⟩
  have hR := adopt_res (R1 := []) (R2 := []) (ob := none) (F := []) hi Res.nil (by simp) rfl (row := ⟨n, [], false⟩) (fun _ _ => ⟨rfl, rfl⟩)
  have hlt := rowAt_lt hr
  have hr1 : rowAt (S.addRow ⟨n, [], false⟩).rows r = some row := by
    show rowAt (S.rows ++ [some ⟨n, [], false⟩]) r = _
    rw [rowAt_push, if_neg (by omega)]; exact hr
  obtain ⟨b, cur, e, v, F1, Fz, F3, _, _, _, _, hzv, _, hcell⟩ := hR.inv.cell hr1 hlkr hy hz
  have hv : v = .slice none 0 0 := by
    cases hzv with | of h => cases h; rfl
  have hself : (gs.add S.rows.length none []) S.rows.length = (none, []) := by simp [Gh.add]
  obtain ⟨h1, _, _⟩ := hcell (.vw S.rows.length 0 0) [] rfl Res.nil (by
    rw [hv]
    refine .vwn (row := ⟨n, [], false⟩) ?_ (by rw [hself]) rfl
    show rowAt (S.rows ++ [some ⟨n, [], false⟩]) S.rows.length = _
    rw [rowAt_push, if_pos rfl])
  exact ⟨hd, G, _, h1⟩
end
end Go.Fw

/- The table of the types that the walks ask for. Plain theorems, no condition. -/
namespace Go.Proofs.YthlfefblhlmbgaaDoor
open Go.Fw
def T : Nat → Option TI
  | 2 => some ⟨1, 8, none, false, false, false, [], (some (.int .i64 0)), (some .i64), none⟩
  | 3 => some ⟨1, 8, none, false, false, false, [], (some (.int .i64 0)), (some .i64), none⟩
  | 4 => some ⟨1, 1, none, false, false, true, [], (some (.bool false)), none, none⟩
  | 5 => some ⟨1, 1, none, false, false, false, [], (some (.int .u8 0)), (some .u8), none⟩
  | 6 => some ⟨1, 1, none, false, false, false, [], (some (.int .u8 0)), (some .u8), none⟩
  | 7 => some ⟨4, 24, none, true, false, false, [(0, 1, false), (1, 1, false), (2, 1, false), (3, 1, false)], (some (.agg #[(.int .i64 0), (.int .i64 0), (.bool false), (.int .u8 0)])), none, none⟩
  | 8 => some ⟨4, 24, none, true, false, false, [(0, 1, false), (1, 1, false), (2, 1, false), (3, 1, false)], (some (.agg #[(.int .i64 0), (.int .i64 0), (.bool false), (.int .u8 0)])), none, none⟩
  | 9 => some ⟨1, 16, none, false, true, false, [], (some (.string ⟨#[]⟩)), none, none⟩
  | 10 => some ⟨1, 16, none, false, true, false, [], (some (.string ⟨#[]⟩)), none, none⟩
  | 11 => some ⟨1, 16, none, false, true, false, [], (some (.string ⟨#[]⟩)), none, none⟩
  | 12 => some ⟨1, 8, none, false, false, false, [], (some (.int .u64 0)), (some .u64), none⟩
  | 13 => some ⟨2, 24, none, true, false, false, [(0, 1, false), (1, 1, false)], (some (.agg #[(.string ⟨#[]⟩), (.int .u64 0)])), none, none⟩
  | 14 => some ⟨2, 24, none, true, false, false, [(0, 1, false), (1, 1, false)], (some (.agg #[(.string ⟨#[]⟩), (.int .u64 0)])), none, none⟩
  | 15 => some ⟨1, 8, none, false, false, false, [], (some (.pointer none)), none, none⟩
  | 16 => some ⟨1, 8, none, false, false, false, [], (some (.pointer none)), none, none⟩
  | 17 => some ⟨1, 8, none, false, false, false, [], (some (.pointer none)), none, none⟩
  | 18 => some ⟨1, 8, none, true, false, false, [(0, 1, false)], (some (.agg #[(.pointer none)])), none, none⟩
  | 19 => some ⟨1, 8, none, true, false, false, [(0, 1, false)], (some (.agg #[(.pointer none)])), none, none⟩
  | 21 => some ⟨1, 4, none, false, false, false, [], (some (.int .i32 0)), (some .i32), none⟩
  | 22 => some ⟨1, 24, (some 34), false, false, false, [], (some (.slice none 0 0)), none, none⟩
  | 23 => some ⟨3, 40, none, true, false, false, [(0, 1, false), (1, 1, false), (2, 1, false)], (some (.agg #[(.int .i64 0), (.int .i64 0), (.slice none 0 0)])), none, none⟩
  | 24 => some ⟨3, 40, none, true, false, false, [(0, 1, false), (1, 1, false), (2, 1, false)], (some (.agg #[(.int .i64 0), (.int .i64 0), (.slice none 0 0)])), none, none⟩
  | 29 => some ⟨1, 24, (some 9), false, false, false, [], (some (.slice none 0 0)), none, none⟩
  | 31 => some ⟨3, 24, none, true, false, false, [(0, 1, false), (1, 1, false), (2, 1, false)], (some (.agg #[(.int .i64 0), (.int .i64 0), (.int .i64 0)])), none, none⟩
  | 32 => some ⟨3, 24, none, true, false, false, [(0, 1, false), (1, 1, false), (2, 1, false)], (some (.agg #[(.int .i64 0), (.int .i64 0), (.int .i64 0)])), none, none⟩
  | 33 => some ⟨8, 72, none, true, false, false, [(0, 1, false), (1, 1, false), (2, 3, true), (5, 3, true)], (some (.agg #[(.int .i64 0), (.string ⟨#[]⟩), (.int .i64 0), (.int .i64 0), (.int .i64 0), (.int .i64 0), (.int .i64 0), (.int .i64 0)])), none, none⟩
  | 34 => some ⟨8, 72, none, true, false, false, [(0, 1, false), (1, 1, false), (2, 3, true), (5, 3, true)], (some (.agg #[(.int .i64 0), (.string ⟨#[]⟩), (.int .i64 0), (.int .i64 0), (.int .i64 0), (.int .i64 0), (.int .i64 0), (.int .i64 0)])), none, none⟩
  | 41 => some ⟨4, 32, none, true, false, false, [(0, 1, false), (1, 3, true)], (some (.agg #[(.int .i64 0), (.int .i64 0), (.int .i64 0), (.int .i64 0)])), none, none⟩
  | 42 => some ⟨4, 32, none, true, false, false, [(0, 1, false), (1, 3, true)], (some (.agg #[(.int .i64 0), (.int .i64 0), (.int .i64 0), (.int .i64 0)])), none, none⟩
  | 49 => some ⟨1, 24, (some 2), false, false, false, [], (some (.slice none 0 0)), none, none⟩
  | 53 => some ⟨3, 24, none, true, false, false, [], (some (.agg #[(.int .i64 0), (.int .i64 0), (.int .i64 0)])), none, (some (3, 1))⟩
  | 57 => some ⟨1, 24, (some 5), false, false, false, [], (some (.slice none 0 0)), none, none⟩
  | 65 => some ⟨1, 8, none, false, false, false, [], (some (.int .u64 0)), (some .u64), none⟩
  | 66 => some ⟨256, 256, none, true, false, false, [], (some (.agg #[(.int .u8 0), (.int .u8 0), (.int .u8 0), (.int .u8 0), (.int .u8 0), (.int .u8 0), (.int .u8 0), (.int .u8 0), (.int .u8 0), (.int .u8 0), (.int .u8 0), (.int .u8 0), (.int .u8 0), (.int .u8 0), (.int .u8 0), (.int .u8 0), (.int .u8 0), (.int .u8 0), (.int .u8 0), (.int .u8 0), (.int .u8 0), (.int .u8 0), (.int .u8 0), (.int .u8 0), (.int .u8 0), (.int .u8 0), (.int .u8 0), (.int .u8 0), (.int .u8 0), (.int .u8 0), (.int .u8 0), (.int .u8 0), (.int .u8 0), (.int .u8 0), (.int .u8 0), (.int .u8 0), (.int .u8 0), (.int .u8 0), (.int .u8 0), (.int .u8 0), (.int .u8 0), (.int .u8 0), (.int .u8 0), (.int .u8 0), (.int .u8 0), (.int .u8 0), (.int .u8 0), (.int .u8 0), (.int .u8 0), (.int .u8 0), (.int .u8 0), (.int .u8 0), (.int .u8 0), (.int .u8 0), (.int .u8 0), (.int .u8 0), (.int .u8 0), (.int .u8 0), (.int .u8 0), (.int .u8 0), (.int .u8 0), (.int .u8 0), (.int .u8 0), (.int .u8 0), (.int .u8 0), (.int .u8 0), (.int .u8 0), (.int .u8 0), (.int .u8 0), (.int .u8 0), (.int .u8 0), (.int .u8 0), (.int .u8 0), (.int .u8 0), (.int .u8 0), (.int .u8 0), (.int .u8 0), (.int .u8 0), (.int .u8 0), (.int .u8 0), (.int .u8 0), (.int .u8 0), (.int .u8 0), (.int .u8 0), (.int .u8 0), (.int .u8 0), (.int .u8 0), (.int .u8 0), (.int .u8 0), (.int .u8 0), (.int .u8 0), (.int .u8 0), (.int .u8 0), (.int .u8 0), (.int .u8 0), (.int .u8 0), (.int .u8 0), (.int .u8 0), (.int .u8 0), (.int .u8 0), (.int .u8 0), (.int .u8 0), (.int .u8 0), (.int .u8 0), (.int .u8 0), (.int .u8 0), (.int .u8 0), (.int .u8 0), (.int .u8 0), (.int .u8 0), (.int .u8 0), (.int .u8 0), (.int .u8 0), (.int .u8 0), (.int .u8 0), (.int .u8 0), (.int .u8 0), (.int .u8 0), (.int .u8 0), (.int .u8 0), (.int .u8 0), (.int .u8 0), (.int .u8 0), (.int .u8 0), (.int .u8 0), (.int .u8 0), (.int .u8 0), (.int .u8 0), (.int .u8 0), (.int .u8 0), (.int .u8 0), (.int .u8 0), (.int .u8 0), (.int .u8 0), (.int .u8 0), (.int .u8 0), (.int .u8 0), (.int .u8 0), (.int .u8 0), (.int .u8 0), (.int .u8 0), (.int .u8 0), (.int .u8 0), (.int .u8 0), (.int .u8 0), (.int .u8 0), (.int .u8 0), (.int .u8 0), (.int .u8 0), (.int .u8 0), (.int .u8 0), (.int .u8 0), (.int .u8 0), (.int .u8 0), (.int .u8 0), (.int .u8 0), (.int .u8 0), (.int .u8 0), (.int .u8 0), (.int .u8 0), (.int .u8 0), (.int .u8 0), (.int .u8 0), (.int .u8 0), (.int .u8 0), (.int .u8 0), (.int .u8 0), (.int .u8 0), (.int .u8 0), (.int .u8 0), (.int .u8 0), (.int .u8 0), (.int .u8 0), (.int .u8 0), (.int .u8 0), (.int .u8 0), (.int .u8 0), (.int .u8 0), (.int .u8 0), (.int .u8 0), (.int .u8 0), (.int .u8 0), (.int .u8 0), (.int .u8 0), (.int .u8 0), (.int .u8 0), (.int .u8 0), (.int .u8 0), (.int .u8 0), (.int .u8 0), (.int .u8 0), (.int .u8 0), (.int .u8 0), (.int .u8 0), (.int .u8 0), (.int .u8 0), (.int .u8 0), (.int .u8 0), (.int .u8 0), (.int .u8 0), (.int .u8 0), (.int .u8 0), (.int .u8 0), (.int .u8 0), (.int .u8 0), (.int .u8 0), (.int .u8 0), (.int .u8 0), (.int .u8 0), (.int .u8 0), (.int .u8 0), (.int .u8 0), (.int .u8 0), (.int .u8 0), (.int .u8 0), (.int .u8 0), (.int .u8 0), (.int .u8 0), (.int .u8 0), (.int .u8 0), (.int .u8 0), (.int .u8 0), (.int .u8 0), (.int .u8 0), (.int .u8 0), (.int .u8 0), (.int .u8 0), (.int .u8 0), (.int .u8 0), (.int .u8 0), (.int .u8 0), (.int .u8 0), (.int .u8 0), (.int .u8 0), (.int .u8 0), (.int .u8 0), (.int .u8 0), (.int .u8 0), (.int .u8 0), (.int .u8 0), (.int .u8 0), (.int .u8 0), (.int .u8 0), (.int .u8 0), (.int .u8 0), (.int .u8 0), (.int .u8 0), (.int .u8 0), (.int .u8 0), (.int .u8 0), (.int .u8 0), (.int .u8 0), (.int .u8 0), (.int .u8 0), (.int .u8 0), (.int .u8 0)])), none, (some (256, 1))⟩
  | 67 => some ⟨2, 2, none, true, false, false, [(0, 1, false), (1, 1, false)], (some (.agg #[(.int .u8 0), (.int .u8 0)])), none, none⟩
  | 68 => some ⟨2, 2, none, true, false, false, [(0, 1, false), (1, 1, false)], (some (.agg #[(.int .u8 0), (.int .u8 0)])), none, none⟩
  | 69 => some ⟨32, 32, none, true, false, false, [], (some (.agg #[(.int .u8 0), (.int .u8 0), (.int .u8 0), (.int .u8 0), (.int .u8 0), (.int .u8 0), (.int .u8 0), (.int .u8 0), (.int .u8 0), (.int .u8 0), (.int .u8 0), (.int .u8 0), (.int .u8 0), (.int .u8 0), (.int .u8 0), (.int .u8 0), (.int .u8 0), (.int .u8 0), (.int .u8 0), (.int .u8 0), (.int .u8 0), (.int .u8 0), (.int .u8 0), (.int .u8 0), (.int .u8 0), (.int .u8 0), (.int .u8 0), (.int .u8 0), (.int .u8 0), (.int .u8 0), (.int .u8 0), (.int .u8 0)])), none, (some (16, 2))⟩
  | 70 => some ⟨1, 4, none, false, false, false, [], (some (.int .u32 0)), (some .u32), none⟩
  | 74 => some ⟨4, 40, none, true, false, false, [(0, 1, false), (1, 1, false), (2, 1, false), (3, 1, false)], (some (.agg #[(.pointer none), (.pointer none), (.pointer none), (.string ⟨#[]⟩)])), none, none⟩
  | 75 => some ⟨4, 40, none, true, false, false, [(0, 1, false), (1, 1, false), (2, 1, false), (3, 1, false)], (some (.agg #[(.pointer none), (.pointer none), (.pointer none), (.string ⟨#[]⟩)])), none, none⟩
  | 76 => some ⟨0, 0, none, true, false, false, [], (some (.agg #[])), none, (some (0, 1))⟩
  | 77 => some ⟨0, 0, none, true, false, false, [(0, 0, true)], (some (.agg #[])), none, none⟩
  | 78 => some ⟨0, 0, none, true, false, false, [(0, 0, true)], (some (.agg #[])), none, none⟩
  | 80 => some ⟨1, 1, none, false, false, false, [], (some (.int .u8 0)), (some .u8), none⟩
  | 81 => some ⟨1, 1, none, false, false, false, [], (some (.int .u8 0)), (some .u8), none⟩
  | 83 => some ⟨1, 8, none, false, false, false, [], (some (.pointer none)), none, none⟩
  | 84 => some ⟨1, 4, none, false, false, false, [], (some (.int .i32 0)), (some .i32), none⟩
  | 85 => some ⟨1, 4, none, false, false, false, [], (some (.int .i32 0)), (some .i32), none⟩
  | 88 => some ⟨1, 8, none, false, false, false, [], (some (.pointer none)), none, none⟩
  | _ => none

set_option maxRecDepth 100000 in
theorem T_ok : ∀ t i, T t = some i → tiOf Tryd.prog t = some i := by
  intro t i h
  unfold T at h
  split at h
  all_goals (cases h <;> kernel_rfl)
end Go.Proofs.YthlfefblhlmbgaaDoor

/- The functions: their numbers, bodies, temporaries, results. Plain theorems, no condition. -/
namespace Go.Proofs.YthlfefblhlmbgaaDoor
open Go.Fw
noncomputable abbrev PP : Program := Tryd.prog
theorem tab : TabOK PP T := T_ok
abbrev n_laws_FnExactParseChanges : Nat := 3
theorem fn_laws_FnExactParseChanges : FnAt PP 3 (Tryd.f3.body.getD .skip) 44 [.tmp 2] := FnAt.of (fn := Tryd.f3) (by kernel_rfl) (by kernel_rfl) (by kernel_rfl) (by kernel_rfl) (by kernel_rfl) (by decide)
abbrev n_spec_ParseChanges : Nat := 4
theorem fn_spec_ParseChanges : FnAt PP 4 (Tryd.f4.body.getD .skip) 41 [.cell 2 24] := FnAt.of (fn := Tryd.f4) (by kernel_rfl) (by kernel_rfl) (by kernel_rfl) (by kernel_rfl) (by kernel_rfl) (by decide)
abbrev n_impl_ParseChanges : Nat := 5
theorem fn_impl_ParseChanges : FnAt PP 5 (Tryd.f5.body.getD .skip) 38 [.cell 2 24] := FnAt.of (fn := Tryd.f5) (by kernel_rfl) (by kernel_rfl) (by kernel_rfl) (by kernel_rfl) (by kernel_rfl) (by decide)
abbrev n_laws_eqChangesResult : Nat := 6
theorem fn_laws_eqChangesResult : FnAt PP 6 (Tryd.f6.body.getD .skip) 21 [.tmp 4] := FnAt.of (fn := Tryd.f6) (by kernel_rfl) (by kernel_rfl) (by kernel_rfl) (by kernel_rfl) (by kernel_rfl) (by decide)
abbrev n_laws_markChangesResult : Nat := 7
theorem fn_laws_markChangesResult : FnAt PP 7 (Tryd.f7.body.getD .skip) 10 [.tmp 4] := FnAt.of (fn := Tryd.f7) (by kernel_rfl) (by kernel_rfl) (by kernel_rfl) (by kernel_rfl) (by kernel_rfl) (by decide)
abbrev n_laws_heldChangesResult : Nat := 8
theorem fn_laws_heldChangesResult : FnAt PP 8 (Tryd.f8.body.getD .skip) 12 [.tmp 4] := FnAt.of (fn := Tryd.f8) (by kernel_rfl) (by kernel_rfl) (by kernel_rfl) (by kernel_rfl) (by kernel_rfl) (by decide)
abbrev n_spec_l2Lines : Nat := 9
theorem fn_spec_l2Lines : FnAt PP 9 (Tryd.f9.body.getD .skip) 19 [.tmp 2] := FnAt.of (fn := Tryd.f9) (by kernel_rfl) (by kernel_rfl) (by kernel_rfl) (by kernel_rfl) (by kernel_rfl) (by decide)
abbrev n_spec_l15Read : Nat := 10
theorem fn_spec_l15Read : FnAt PP 10 (Tryd.f10.body.getD .skip) 86 [.cell 2 34, .tmp 3] := FnAt.of (fn := Tryd.f10) (by kernel_rfl) (by kernel_rfl) (by kernel_rfl) (by kernel_rfl) (by kernel_rfl) (by decide)
abbrev n_spec_l2Words : Nat := 11
theorem fn_spec_l2Words : FnAt PP 11 (Tryd.f11.body.getD .skip) 28 [.tmp 2] := FnAt.of (fn := Tryd.f11) (by kernel_rfl) (by kernel_rfl) (by kernel_rfl) (by kernel_rfl) (by kernel_rfl) (by decide)
abbrev n_impl_linesOf : Nat := 12
theorem fn_impl_linesOf : FnAt PP 12 (Tryd.f12.body.getD .skip) 19 [.tmp 2] := FnAt.of (fn := Tryd.f12) (by kernel_rfl) (by kernel_rfl) (by kernel_rfl) (by kernel_rfl) (by kernel_rfl) (by decide)
abbrev n_impl_readChange : Nat := 13
theorem fn_impl_readChange : FnAt PP 13 (Tryd.f13.body.getD .skip) 86 [.cell 2 34, .tmp 3] := FnAt.of (fn := Tryd.f13) (by kernel_rfl) (by kernel_rfl) (by kernel_rfl) (by kernel_rfl) (by kernel_rfl) (by decide)
abbrev n_impl_wordsOf : Nat := 14
theorem fn_impl_wordsOf : FnAt PP 14 (Tryd.f14.body.getD .skip) 6 [.tmp 2] := FnAt.of (fn := Tryd.f14) (by kernel_rfl) (by kernel_rfl) (by kernel_rfl) (by kernel_rfl) (by kernel_rfl) (by decide)
abbrev n_laws_eqChangeS : Nat := 15
theorem fn_laws_eqChangeS : FnAt PP 15 (Tryd.f15.body.getD .skip) 27 [.tmp 4] := FnAt.of (fn := Tryd.f15) (by kernel_rfl) (by kernel_rfl) (by kernel_rfl) (by kernel_rfl) (by kernel_rfl) (by decide)
abbrev n_laws_markChangeS : Nat := 16
theorem fn_laws_markChangeS : FnAt PP 16 (Tryd.f16.body.getD .skip) 76 [.tmp 4] := FnAt.of (fn := Tryd.f16) (by kernel_rfl) (by kernel_rfl) (by kernel_rfl) (by kernel_rfl) (by kernel_rfl) (by decide)
abbrev n_laws_heldChangeS : Nat := 17
theorem fn_laws_heldChangeS : FnAt PP 17 (Tryd.f17.body.getD .skip) 92 [.tmp 4] := FnAt.of (fn := Tryd.f17) (by kernel_rfl) (by kernel_rfl) (by kernel_rfl) (by kernel_rfl) (by kernel_rfl) (by decide)
abbrev n_spec_l1Parts : Nat := 18
theorem fn_spec_l1Parts : FnAt PP 18 (Tryd.f18.body.getD .skip) 36 [.tmp 4] := FnAt.of (fn := Tryd.f18) (by kernel_rfl) (by kernel_rfl) (by kernel_rfl) (by kernel_rfl) (by kernel_rfl) (by decide)
abbrev n_spec_NameFault : Nat := 19
theorem fn_spec_NameFault : FnAt PP 19 (Tryd.f19.body.getD .skip) 29 [.tmp 2] := FnAt.of (fn := Tryd.f19) (by kernel_rfl) (by kernel_rfl) (by kernel_rfl) (by kernel_rfl) (by kernel_rfl) (by decide)
abbrev n_spec_ParseVersion : Nat := 20
theorem fn_spec_ParseVersion : FnAt PP 20 (Tryd.f20.body.getD .skip) 47 [.cell 2 42] := FnAt.of (fn := Tryd.f20) (by kernel_rfl) (by kernel_rfl) (by kernel_rfl) (by kernel_rfl) (by kernel_rfl) (by decide)
abbrev n_strings_Split : Nat := 21
theorem fn_strings_Split : FnAt PP 21 (Tryd.f21.body.getD .skip) 8 [.tmp 4] := FnAt.of (fn := Tryd.f21) (by kernel_rfl) (by kernel_rfl) (by kernel_rfl) (by kernel_rfl) (by kernel_rfl) (by decide)
abbrev n_impl_NameFault : Nat := 22
theorem fn_impl_NameFault : FnAt PP 22 (Tryd.f22.body.getD .skip) 33 [.tmp 2] := FnAt.of (fn := Tryd.f22) (by kernel_rfl) (by kernel_rfl) (by kernel_rfl) (by kernel_rfl) (by kernel_rfl) (by decide)
abbrev n_impl_ParseVersion : Nat := 23
theorem fn_impl_ParseVersion : FnAt PP 23 (Tryd.f23.body.getD .skip) 39 [.cell 2 42] := FnAt.of (fn := Tryd.f23) (by kernel_rfl) (by kernel_rfl) (by kernel_rfl) (by kernel_rfl) (by kernel_rfl) (by decide)
abbrev n_slices_DeleteFunc_L_string_string : Nat := 24
theorem fn_slices_DeleteFunc_L_string_string : FnAt PP 24 (Tryd.f24.body.getD .skip) 42 [.tmp 4] := FnAt.of (fn := Tryd.f24) (by kernel_rfl) (by kernel_rfl) (by kernel_rfl) (by kernel_rfl) (by kernel_rfl) (by decide)
abbrev n_impl_wordsOf_1 : Nat := 25
theorem fn_impl_wordsOf_1 : FnAt PP 25 (Tryd.f25.body.getD .skip) 5 [.tmp 2] := FnAt.of (fn := Tryd.f25) (by kernel_rfl) (by kernel_rfl) (by kernel_rfl) (by kernel_rfl) (by kernel_rfl) (by decide)
abbrev n_laws_eqChange : Nat := 26
theorem fn_laws_eqChange : FnAt PP 26 (Tryd.f26.body.getD .skip) 27 [.tmp 4] := FnAt.of (fn := Tryd.f26) (by kernel_rfl) (by kernel_rfl) (by kernel_rfl) (by kernel_rfl) (by kernel_rfl) (by decide)
abbrev n_laws_markText : Nat := 27
theorem fn_laws_markText : FnAt PP 27 (Tryd.f27.body.getD .skip) 20 [.tmp 2] := FnAt.of (fn := Tryd.f27) (by kernel_rfl) (by kernel_rfl) (by kernel_rfl) (by kernel_rfl) (by kernel_rfl) (by decide)
abbrev n_spec_l1Letter : Nat := 28
theorem fn_spec_l1Letter : FnAt PP 28 (Tryd.f28.body.getD .skip) 9 [.tmp 2] := FnAt.of (fn := Tryd.f28) (by kernel_rfl) (by kernel_rfl) (by kernel_rfl) (by kernel_rfl) (by kernel_rfl) (by decide)
abbrev n_spec_l1Name : Nat := 29
theorem fn_spec_l1Name : FnAt PP 29 (Tryd.f29.body.getD .skip) 13 [.tmp 2] := FnAt.of (fn := Tryd.f29) (by kernel_rfl) (by kernel_rfl) (by kernel_rfl) (by kernel_rfl) (by kernel_rfl) (by decide)
abbrev n_spec_l1Number : Nat := 30
theorem fn_spec_l1Number : FnAt PP 30 (Tryd.f30.body.getD .skip) 37 [.tmp 4, .tmp 5] := FnAt.of (fn := Tryd.f30) (by kernel_rfl) (by kernel_rfl) (by kernel_rfl) (by kernel_rfl) (by kernel_rfl) (by decide)
abbrev n_strings_genSplit : Nat := 31
theorem fn_strings_genSplit : FnAt PP 31 (Tryd.f31.body.getD .skip) 66 [.tmp 8] := FnAt.of (fn := Tryd.f31) (by kernel_rfl) (by kernel_rfl) (by kernel_rfl) (by kernel_rfl) (by kernel_rfl) (by decide)
abbrev n_impl_isNameByte : Nat := 32
theorem fn_impl_isNameByte : FnAt PP 32 (Tryd.f32.body.getD .skip) 21 [.tmp 2] := FnAt.of (fn := Tryd.f32) (by kernel_rfl) (by kernel_rfl) (by kernel_rfl) (by kernel_rfl) (by kernel_rfl) (by decide)
abbrev n_impl_number : Nat := 33
theorem fn_impl_number : FnAt PP 33 (Tryd.f33.body.getD .skip) 40 [.tmp 4] := FnAt.of (fn := Tryd.f33) (by kernel_rfl) (by kernel_rfl) (by kernel_rfl) (by kernel_rfl) (by kernel_rfl) (by decide)
abbrev n_slices_IndexFunc_L_string_string : Nat := 34
theorem fn_slices_IndexFunc_L_string_string : FnAt PP 34 (Tryd.f34.body.getD .skip) 19 [.tmp 4] := FnAt.of (fn := Tryd.f34) (by kernel_rfl) (by kernel_rfl) (by kernel_rfl) (by kernel_rfl) (by kernel_rfl) (by decide)
abbrev n_laws_eqVersion : Nat := 35
theorem fn_laws_eqVersion : FnAt PP 35 (Tryd.f35.body.getD .skip) 20 [.tmp 4] := FnAt.of (fn := Tryd.f35) (by kernel_rfl) (by kernel_rfl) (by kernel_rfl) (by kernel_rfl) (by kernel_rfl) (by decide)
abbrev n_spec_l1Digit : Nat := 36
theorem fn_spec_l1Digit : FnAt PP 36 (Tryd.f36.body.getD .skip) 9 [.tmp 2] := FnAt.of (fn := Tryd.f36) (by kernel_rfl) (by kernel_rfl) (by kernel_rfl) (by kernel_rfl) (by kernel_rfl) (by decide)
end Go.Proofs.YthlfefblhlmbgaaDoor

/- The program's data as plain data, and how memory tells of them. Definitions. -/
set_option linter.unusedVariables false
namespace Go.Proofs.YthlfefblhlmbgaaDoor
open Go Go.Fw
def i64 (x : Int) : A := .sc (.int .i64 x)
def boo (x : Bool) : A := .sc (.bool x)
def str (x : List UInt8) : A := .sc (.string (mkS x))
structure Ver where
  a : Int
  b : Int
  c : Int
  deriving DecidableEq
def Ver.cells (v : Ver) : List A := [i64 v.a, i64 v.b, i64 v.c]
def Ver.enc (v : Ver) : A := .agg v.cells
def Ver.zero : Ver := ⟨0, 0, 0⟩
structure Chg where
  k : Int
  n : List UInt8
  o : Ver
  w : Ver
  deriving DecidableEq
def Chg.cells (v : Chg) : List A := [i64 v.k, str v.n, i64 v.o.a, i64 v.o.b, i64 v.o.c, i64 v.w.a, i64 v.w.b, i64 v.w.c]
def Chg.enc (v : Chg) : A := .agg v.cells
def Chg.zero : Chg := ⟨0, [], Ver.zero, Ver.zero⟩

/-! Sizes. -/
theorem inc64 {n : Nat} (h : n < 9223372036854775807) : IntKind.i64.wrap ((n : Int) + 1) = ((n + 1 : Nat) : Int) := by rw [wrap64 (by omega) (by omega)]; omega
/-! Steps that all loops have. -/
section
variable {Ω : Opq}
theorem ltI (hΩ : Ω = std) {i : Nat} {xs : List A} (h : Ω.cmp .lss (Ω.int i) (Ω.int (Ω.len xs)) = true) : i < xs.length := by
  subst hΩ
  have h : (i : Int) < xs.length := lt_t h
  omega
theorem geI (hΩ : Ω = std) {i : Nat} {xs : List A} (h : Ω.cmp .lss (Ω.int i) (Ω.int (Ω.len xs)) = false) : xs.length ≤ i := by
  subst hΩ
  have h : (xs.length : Int) ≤ i := lt_f h
  omega
theorem ltN (hΩ : Ω = std) {i n : Nat} (h : Ω.cmp .lss (Ω.int i) (Ω.int n) = true) : i < n := by
  subst hΩ
  have h : (i : Int) < n := lt_t h
  omega
theorem geN (hΩ : Ω = std) {i n : Nat} (h : Ω.cmp .lss (Ω.int i) (Ω.int n) = false) : n ≤ i := by
  subst hΩ
  have h : (n : Int) ≤ i := lt_f h
  omega
theorem nnI (hΩ : Ω = std) {i : Nat} : 0 ≤ Ω.int i := by subst hΩ; exact Int.natCast_nonneg i
theorem rdI (hΩ : Ω = std) {α : Type} {f : α → A} {cs : List α} {xs : List A} {i : Nat} {c : α} (hxs : xs = cs.map f) (hc : cs[i]? = some c) : xs[(Ω.int i).toNat]? = some (f c) := by
  subst hΩ
  show xs[i]? = _
  rw [hxs, List.getElem?_map, hc]; rfl
theorem incI (hΩ : Ω = std) {i : Nat} (h : i < 9223372036854775807) : i64 (Ω.ar .add .i64 (Ω.int i) 1) = i64 (Ω.int (i + 1)) := by subst hΩ; exact congrArg i64 (inc64 h)
theorem zeroI (hΩ : Ω = std) : i64 0 = i64 (Ω.int 0) := by subst hΩ; rfl
theorem notT (hΩ : Ω = std) (h : Ω.not true = true) : False := by subst hΩ; cases (show (!true) = true from h)
theorem ne_self (hΩ : Ω = std) {x : Int} (h : Ω.cmp .neq x x = true) : False := by subst hΩ; exact ne_t h rfl
theorem sne_self (hΩ : Ω = std) {x : List UInt8} (h : Ω.cmpS .neq x x = true) : False := by subst hΩ; exact sne_t h rfl
end
theorem okAll {xs : List A} (h : (flat xs).all okCell = true) : ∀ c ∈ flat xs, okCell c = true := List.all_eq_true.1 h
theorem eqI_t {Ω : Opq} (hΩ : Ω = std) {x y : Int} (h : Ω.cmp .eql x y = true) : x = y := by subst hΩ; exact eq_t h
theorem eqI_f {Ω : Opq} (hΩ : Ω = std) {x y : Int} (h : Ω.cmp .eql x y = false) : x ≠ y := by subst hΩ; exact eq_f h
theorem leI_t {Ω : Opq} (hΩ : Ω = std) {x y : Int} (h : Ω.cmp .leq x y = true) : x ≤ y := by subst hΩ; exact le_t h
theorem leI_f {Ω : Opq} (hΩ : Ω = std) {x y : Int} (h : Ω.cmp .leq x y = false) : y < x := by subst hΩ; exact le_f h
theorem ltI_t {Ω : Opq} (hΩ : Ω = std) {x y : Int} (h : Ω.cmp .lss x y = true) : x < y := by subst hΩ; exact lt_t h
/-- One more, in 64 bits. -/
def inc (x : Int) : Int := IntKind.i64.wrap (x + 1)
theorem inc_eq {x : Int} (h0 : 0 ≤ x) (h1 : x ≤ 4611686018427387904) : inc x = x + 1 := wrap64 (by omega) (by omega)
theorem ixI {Ω : Opq} (hΩ : Ω = std) {i n : Nat} (h : i < n) : 0 ≤ Ω.int i ∧ Ω.int i < (n : Int) := by subst hΩ; exact ⟨Int.natCast_nonneg i, Int.ofNat_lt.2 h⟩
theorem atI {Ω : Opq} (hΩ : Ω = std) {i : Nat} {xs : List A} {z : A} (h : xs[i]? = some z) : xs[Ω.plus 0 (Ω.nat (Ω.int i))]? = some z := by
  subst hΩ; show xs[0 + i]? = _; rw [Nat.zero_add]; exact h
theorem setI {Ω : Opq} (hΩ : Ω = std) {i : Nat} {xs : List A} {z : A} (h : i < xs.length) : (Ω.set xs (Ω.plus 0 (Ω.nat (Ω.int i))) z)[Ω.plus 0 (Ω.nat (Ω.int i))]? = some z := by
  subst hΩ; show (xs.set (0 + i) z)[0 + i]? = _; rw [Nat.zero_add]; simp [h]
theorem setI_length {Ω : Opq} (hΩ : Ω = std) {i : Nat} {xs : List A} {z : A} : (Ω.set xs i z).length = xs.length := by subst hΩ; exact List.length_set
theorem setI_lt {Ω : Opq} (hΩ : Ω = std) {i j : Nat} {xs : List A} {z : A} (h : i < xs.length) : i < (Ω.set xs j z).length := by rw [setI_length hΩ]; exact h
theorem at_of {α : Type} {cs : List α} {i : Nat} (h : i < cs.length) : ∃ c, cs[i]? = some c := ⟨_, List.getElem?_eq_getElem h⟩
theorem hmo : PP.follows .mixedOrders = true := by kernel_rfl
end Go.Proofs.YthlfefblhlmbgaaDoor

/- Packages, terms, and what the program's functions say of them, as plain functions. Definitions and plain theorems. -/
set_option linter.unusedVariables false
set_option linter.unusedSimpArgs false
namespace Go.Proofs.YthlfefblhlmbgaaDoor
open Go Go.Fw
structure Trm where
  n : List UInt8
  l : Ver
  h : Ver
  deriving DecidableEq
def Trm.cells (t : Trm) : List A := [str t.n, i64 t.l.a, i64 t.l.b, i64 t.l.c, i64 t.h.a, i64 t.h.b, i64 t.h.c]
def Trm.enc (t : Trm) : A := .agg t.cells
def Trm.zero : Trm := ⟨[], Ver.zero, Ver.zero⟩
structure Pck where
  n : List UInt8
  v : Ver
  s : Int
  p : List (List UInt8)
  d : List (List Trm)
  b : List Trm
  deriving DecidableEq
def encTs (o : Bool) (l : List Trm) : A := .sl o 7 (l.map Trm.enc)
def Pck.cells (o : Bool) (p : Pck) : List A := [str p.n, i64 p.v.a, i64 p.v.b, i64 p.v.c, i64 p.s, .sl o 1 (p.p.map str), .sl o 1 (p.d.map (encTs o)), .sl o 7 (p.b.map Trm.enc)]
def Pck.enc (o : Bool) (p : Pck) : A := .agg (p.cells o)

/-! What the program's functions say. -/
def letterB (c : UInt8) : Bool := decide (97 ≤ (c.toNat : Int)) && decide ((c.toNat : Int) ≤ 122)
def digitB (c : UInt8) : Bool := decide (48 ≤ (c.toNat : Int)) && decide ((c.toNat : Int) ≤ 57)
def nameB (c : UInt8) : Bool := letterB c || (digitB c || decide ((c.toNat : Int) = 95))
def allCode {α : Type} (p : α → Bool) (k : Int) : List α → Int
  | [] => 0
  | x :: xs => if p x then allCode p k xs else k
def nameF (n : List UInt8) : Int := if (n.length : Int) < 1 then 5 else if (12 : Int) < n.length then 5 else if letterB (n.headD 0) then allCode nameB 5 n else 5
theorem allCode_at {α : Type} (p : α → Bool) (k : Int) {cs : List α} {i : Nat} {c : α} (h : cs[i]? = some c) : allCode p k (cs.drop i) = if p c then allCode p k (cs.drop (i + 1)) else k := by
  obtain ⟨h1, h2⟩ := List.getElem?_eq_some_iff.1 h
  rw [List.drop_eq_getElem_cons h1, h2, allCode]
@[simp] theorem std_cmp (op : BinOp) (x y : Int) : std.cmp op x y = cmpIS op x y := rfl
@[simp] theorem std_cmpS (op : BinOp) (x y : List UInt8) : std.cmpS op x y = cmpSS op x y := rfl
@[simp] theorem std_not (x : Bool) : std.not x = !x := rfl
@[simp] theorem std_ite (b x y : Bool) : std.ite b x y = if b then x else y := rfl
@[simp] theorem std_ar (op : BinOp) (k : IntKind) (x y : Int) : std.ar op k x y = arS op k x y := rfl
@[simp] theorem std_int (n : Nat) : std.int n = (n : Int) := rfl
@[simp] theorem std_len (n : List A) : std.len n = n.length := rfl
@[simp] theorem std_lenS (n : List UInt8) : std.lenS n = n.length := rfl
@[simp] theorem std_u8 (n : UInt8) : std.u8 n = (n.toNat : Int) := rfl
theorem notT' {Ω : Opq} (hΩ : Ω = std) {b : Bool} (h : Ω.not b = true) : b = false := by subst hΩ; simpa using h
theorem notF' {Ω : Opq} (hΩ : Ω = std) {b : Bool} (h : Ω.not b = false) : b = true := by subst hΩ; simpa using h
end Go.Proofs.YthlfefblhlmbgaaDoor

/- Regions that draw their order, of which a first part only reads but for one slice that is made, and the rest stands in one order. Plain theorems, no condition. -/
set_option linter.unusedVariables false
set_option linter.unusedSimpArgs false
namespace Go.Fw
section
variable {P : Program}
def BelowS (P : Program) {α : Type} (m : Sem α) : Prop := ∀ w v w', m.run P w = .ok v w' → Go.RowKit.Below w.heap.size w w'
theorem BelowS.pure {α : Type} (x : α) : BelowS P (Pure.pure x : Sem α) := fun w v w' h => by
  simp only [Sem.run_pure, Result.ok.injEq] at h
  rw [← h.2]; exact .refl _ _
theorem BelowS.bind {α β : Type} {m : Sem α} {f : α → Sem β} (h : BelowS P m) (hf : ∀ x, BelowS P (f x)) : BelowS P (m >>= f) := fun w v w' hr => by
  rw [Sem.run_bind] at hr
  generalize hm : m.run P w = r at hr
  cases r with
  | halt => simp [Result.andThen] at hr
  | ok x w1 =>
    simp only [Result.andThen_ok] at hr
    have h1 := h _ _ _ hm
    have h2 := hf x _ _ _ hr
    exact ⟨h2.os.trans h1.os, h2.tape.trans h1.tape, h2.output.trans h1.output, Nat.le_trans h1.size h2.size, fun b hb => (h2.block b (Nat.lt_of_lt_of_le hb h1.size)).trans (h1.block b hb)⟩
theorem BelowS.same {α : Type} {m : Sem α} (h : ∀ w v w', m.run P w = .ok v w' → w' = w) : BelowS P m := fun w v w' hr => by
  rw [h _ _ _ hr]; exact .refl _ _
end
/-! Any order, told by what each operation yields. -/
section
variable {P : Program} {ops : Array Oper} {md : Region.Mode} {Y : Nat → Value → Sem Next → Prop}
def gOp (ops : Array Oper) (Y : Nat → Value → Sem Next → Prop) (i : Nat) (K : Act → Prop) (a : Act) : Prop :=
  match ops[i]? with
  | none => K a
  | some o => if Region.wanted o (yielded ops a.tmps) then ∃ v, Y i v (execOp a.eval o) ∧ K (a.put o.dst v) else K (a.put o.dst undef)
def YG (ops : Array Oper) (Y : Nat → Value → Sem Next → Prop) (i : Nat) (o : Oper) (v : Value) (a : Act) : Prop :=
  (Region.wanted o (yielded ops a.tmps) = true ∧ Y i v (execOp a.eval o)) ∨ (Region.wanted o (yielded ops a.tmps) = false ∧ v = undef)
theorem YG.gOp {i : Nat} {o : Oper} {v : Value} {a : Act} (hi : ops[i]? = some o) (hy : YG ops Y i o v a) {K : Act → Prop} (h : K (a.put o.dst v)) : Fw.gOp ops Y i K a := by
  unfold Fw.gOp
  simp only [hi]
  rcases hy with ⟨hw, hv⟩ | ⟨hw, rfl⟩
  · simp only [hw, if_true]; exact ⟨v, hv, h⟩
  · simp only [hw, Bool.false_eq_true, if_false]; exact h
def anyG (md : Region.Mode) (ops : Array Oper) (Y : Nat → Value → Sem Next → Prop) (n : Nat) (L : Array Bool → Act → Prop) : Nat → Array Bool → Act → Prop
  | 0, listed, a => L listed a
  | f + 1, listed, a => Region.ready md ops listed ≠ [] ∧ ∀ i ∈ Region.ready md ops listed, i < n ∧ gOp ops Y i (anyG md ops Y n L f (listed.setIfInBounds i true)) a
/-! The reckoning. -/
variable {T : Nat → Option TI} {S : State} {o : Oper}
end
end Go.Fw

/- Regions that draw their order, of which some operations only read what nobody in it writes, and the others stand in one order. Plain theorems, no condition. -/
set_option linter.unusedVariables false
set_option linter.unusedSimpArgs false
namespace Go.Fw
section
variable {P : Program} {T : Nat → Option TI} {S : State} {o : Oper}
def Agree (G : Nat → Prop) (w w' : World) : Prop := ∀ b, G b → w'.heap[b]? = w.heap[b]?
/-- The operation yields a value told by x, the same one as long as what may be read stands. -/
def VOG (P : Program) (o : Oper) (S : State) (x : A) : Prop :=
  ∀ (E : Env P) (G : Nat → Prop) (gs : Gh) (a : Act) (w : World), Inv E G gs S a.tmps w →
    ∃ v, (∀ w', Agree G w w' → (execOp a.eval o).run P w' = .ok (.value v) w') ∧ TRel w G S.rows gs x v []
theorem VOG_move {x : Operand} (ho : o.op = .move x ∨ o.op = .assign x) (hx : okO x = true) : VOG P o S (ev S x) :=
  fun E G gs a w hi => ⟨a.eval x, fun w' hw' => by rcases ho with h | h <;> simp [execOp, h], ev_rel hi x hx⟩
theorem VOG_load_rp {t : TypeId} {x : Operand} {xs : List A} {z : A} (ho : o.op = .load t x) (hx : okO x = true) (he : ev S x = .rp xs)
    (ha : aggT P t = some false) (hz : xs[0]? = some z) : VOG P o S z := by
  refine fun E G gs a w hi => ?_
  have h1 := ev_rel hi x hx
  rw [he] at h1
  obtain ⟨b, k, cur, e, fr, hv, hh, hg, hl⟩ := rp_inv h1
  obtain ⟨v, hv1, hv2⟩ := hl.get 0 z hz
  have hcur : cur[k]? = some v := by
    have h0 : 0 < xs.length := by
      rcases Nat.eq_zero_or_pos xs.length with h | h
      · rw [List.eq_nil_of_length_eq_zero h] at hz; simp at hz
      · exact h
    rw [List.getElem?_take_of_lt h0, List.getElem?_drop] at hv1
    simpa using hv1
  exact ⟨v, fun w' hw' => by simp [execOp, ho, Instr.loadAt, hv, Instr.sureAddr, run_loadVar_cell ha ((hw' b hg).trans hh) hcur], .of hv2⟩
theorem VOG_load_rpAgg {t : TypeId} {x : Operand} {xs : List A} {s : Nat} (ho : o.op = .load t x) (hx : okO x = true) (he : ev S x = .rp xs)
    (ha : aggT P t = some true) (hs : szT P t = some s) (hq : s ≤ xs.length) : VOG P o S (.agg (xs.take s)) := by
  refine fun E G gs a w hi => ?_
  have h1 := ev_rel hi x hx
  rw [he] at h1
  obtain ⟨b, k, cur, e, fr, hv, hh, hg, hl⟩ := rp_inv h1
  have h2 := hl.take0 s
  have h3 := h2.length
  rw [List.take_take, Nat.min_eq_left hq] at h2 h3
  exact ⟨.agg ((cur.toList.drop k).take s).toArray, by
    intro w' hw'
    simp [execOp, ho, Instr.loadAt, hv, Instr.sureAddr, run_loadVar_agg ha hs ((hw' b hg).trans hh) rfl (by rw [h3]; simp; omega)], .of (.agg h2)⟩
theorem VOG_slice_sl {t e : TypeId} {x : Operand} {lo hi : Option Operand} {n : Nat} {xs : List A} {l h : Nat} (ho : o.op = .slice t x lo hi none) (hx : okO x = true) (hlo : okOpt lo = true) (hhi : okOpt hi = true)
    (he : ev S x = .sl false n xs) (ht : elemT P t = some e) (hs : szT P e = some n) (h1 : bnd (lo.map (ev S)) 0 = some (l : Int)) (h2 : bnd (hi.map (ev S)) xs.length = some (h : Int)) (hlh : l ≤ h) (hhl : h ≤ xs.length)
    : VOG P o S (.sl false n ((xs.take h).drop l)) := by
  refine fun E G gs a w hinv => ?_
  have e1 := ev_rel hinv x hx
  rw [he] at e1
  obtain ⟨a1, a2⟩ := opt_rel hinv lo hlo
  obtain ⟨b1, b2⟩ := opt_rel hinv hi hhi
  have hu := elemT_inv ht
  rcases slf_inv e1 with ⟨⟨oa, hv⟩, rfl⟩ | ⟨b, k, cap, cur, et, fr, hv, hh, hg, hw, hrel, hcap, hm⟩
  · simp at hhl
    subst hhl
    have : l = 0 := by omega
    subst this
    have hb := slice_bounds (P := P) (isS := true) (lo.map a.eval) (hi.map a.eval) _ _ h1 h2 a1 a2 b1 b2 (by omega) (by simp) (cap := 0) (by simp)
    simp only [List.length_nil] at hb
    refine ⟨.slice oa 0 0, ?_, .of (by cases oa with | none => simpa using Rel.nils | some ad => simpa using Rel.roz)⟩
    intro w' hw'
    cases oa <;>
    simp [execOp, ho, hv, Instr.sliceAt, run_underlying hu, Instr.slice, hb, run_sizeOf hs]
  · have hb := slice_bounds (P := P) (isS := true) (lo.map a.eval) (hi.map a.eval) _ _ h1 h2 a1 a2 b1 b2 hlh hhl hcap
    have hlen : h - l = ((xs.take h).drop l).length := by simp; omega
    refine ⟨.slice (some ⟨b, if cap = l then k else k + l * n, none⟩) (h - l) (cap - l), ?_, .of (.ro hh hg (fun x hx => hw x (List.mem_of_mem_take (List.mem_of_mem_drop hx))) hlen rfl ?_ (by omega) (by omega))⟩
    · intro w' hw'
      simp [execOp, ho, hv, Instr.sliceAt, run_underlying hu, Instr.slice, hb, run_sizeOf hs]
      split <;> simp [add_none]
    · have h3 := (hrel.take0 (h * n)).drop0 (l * n)
      rw [flat_take h hw, flat_drop l (fun x hx => hw x (List.mem_of_mem_take hx))] at h3
      have hle : h * n ≤ xs.length * n := Nat.mul_le_mul_right _ hhl
      have e4 : List.drop (l * n) (List.take (h * n) (List.take (xs.length * n) (cur.toList.drop k))) = (cur.toList.drop (k + l * n)).take ((h - l) * n) := by
        rw [List.take_take, Nat.min_eq_left hle, List.drop_take, List.drop_drop, ← Nat.sub_mul]
      rw [e4] at h3
      split
      · rename_i hc
        have h0 : h - l = 0 := by omega
        rw [h0] at h3 ⊢
        simpa using h3
      · exact h3
theorem VOG_binOp {op : BinOp} {t t' : TypeId} {x y : Operand} {u v : Value} (ho : o.op = .binOp op t x y t') (hx : okO x = true) (hy : okO y = true)
    (h1 : ev S x = .sc u) (h2 : ev S y = .sc v) (h : (binS P op t u v).1) : VOG P o S (.sc (binS P op t u v).2) := by
  refine fun E G gs a w hi => ?_
  have e1 := ev_rel hi x hx
  have e2 := ev_rel hi y hy
  rw [h1] at e1
  rw [h2] at e2
  have v1 := (sc_inv e1).1
  have v2 := (sc_inv e2).1
  refine ⟨_, fun w' hw' => ?_, .of (.sc (binS_run h x y w).2)⟩
  have hr := (binS_run h x y w').1
  simp only [execOp, ho, v1, v2, Sem.run_bind] at hr ⊢
  rw [hr]
  rfl
theorem VOG_makeFunc {fn : FuncId} {first caps : Array Operand} (ho : o.op = .makeFunc (.func fn) first caps) (hf : first.toList = []) (hg : fn < 1000000) : VOG P o S (.clo fn (caps.toList.map (ev S))) := by
  refine fun E G gs a w hi => ⟨mkFn fn (caps.toList.map a.eval), fun w' hw' => ?_, .clo (evs_rel hi caps.toList)⟩
  have : first = #[] := by apply Array.toList_inj.1; simpa using hf
  subst this
  have e : (caps.toList.map a.eval).toArray = caps.map a.eval := by apply Array.toList_inj.1; simp
  unfold mkFn
  rw [if_pos hg, e]
  simp [execOp, ho, Instr.makeFunc]
theorem vBin_sc (hT : TabOK P T) {k : A → Prop} {op : BinOp} {t : TypeId} {x y : A} (h : vBin std T op t x y k) : ∃ u v, x = .sc u ∧ y = .sc v ∧ (binS P op t u v).1 ∧ k (.sc (binS P op t u v).2) := by
  unfold vBin at h
  split at h <;> try exact h.elim
  · rename_i ka a kb b
    have go : (binS P op t (.int ka a) (.int kb b)).1 → k (.sc (binS P op t (.int ka a) (.int kb b)).2) → ∃ u v, A.sc (.int ka a) = .sc u ∧ A.sc (.int kb b) = .sc v ∧ (binS P op t u v).1 ∧ k (.sc (binS P op t u v).2) := fun hc hk => ⟨_, _, rfl, rfl, hc, hk⟩
    unfold vBinI at h
    split at h
    · exact go h.1.h h.2
    · exact go h.1.h h.2
    · split at h <;> try exact h.elim
      rename_i hk
      subst hk
      split at h
      · exact go rfl h
      · exact go rfl h
      · exact go rfl h
      · exact go rfl h
      · exact go rfl h
      · exact go rfl h
      · exact go rfl h
      · exact go ⟨rfl, h.1.h⟩ h.2
      · exact go ⟨rfl, h.1.h⟩ h.2
      · cases op <;> first | exact go rfl h | simp_all
  · rename_i a b
    have go : (binS P op t (.string a) (.string b)).1 → k (.sc (binS P op t (.string a) (.string b)).2) → ∃ u v, A.sc (.string a) = .sc u ∧ A.sc (.string b) = .sc v ∧ (binS P op t u v).1 ∧ k (.sc (binS P op t u v).2) := fun hc hk => ⟨_, _, rfl, rfl, hc, hk⟩
    unfold vBinS at h
    split at h <;> try exact h.elim
    · exact go h.1.h h.2
    all_goals exact go trivial h
  · rename_i a b
    split at h <;> try exact h.elim
    · rename_i i hi
      split at h <;> try exact h.elim
      rename_i hb
      exact ⟨_, _, rfl, rfl, by rw [← (tiOf_ok (hT _ _ hi)).bool] at hb; exact hb, h⟩
    · rename_i i hi
      split at h <;> try exact h.elim
      rename_i hb
      exact ⟨_, _, rfl, rfl, by rw [← (tiOf_ok (hT _ _ hi)).bool] at hb; exact hb, h⟩
/-- What an operation reads that nobody writes. -/
def vGOp (Ω : Opq) (T : Nat → Option TI) (o : Oper) (S : State) (k : A → Prop) : Prop :=
  match o.op with
  | .move x => k (ev S x)
  | .assign x => k (ev S x)
  | .binOp op t x y _ => vBin Ω T op t (ev S x) (ev S y) k
  | .load t x => (match T t, ev S x with
    | some i, .rp xs => if i.ag then (if i.sz ≤ xs.length then k (.agg (xs.take i.sz)) else False) else (match xs[0]? with
      | some z => k z
      | none => False)
    | _, _ => False)
  | .slice t x lo hi none => (match ev S x, szEl T t with
    | .sl false n xs, some (_, ei) => if ei.sz = n then vLo Ω (lo.map (ev S)) 0 fun c1 l => vLo Ω (hi.map (ev S)) (Ω.len xs) fun c2 h => Ob (fun _ => c1 () ∧ c2 () ∧ l ≤ h ∧ h ≤ xs.length) ∧ k (.sl false n (Ω.seg l h xs)) else False
    | _, _ => False)
  | .makeFunc (.func g) first caps => (match first.toList with
    | [] => if g < 1000000 then k (.clo g (caps.toList.map (ev S))) else False
    | _ => False)
  | _ => False
theorem vGOp_ok (hT : TabOK P T) {k : A → Prop} (h : vGOp std T o S k) : ∃ z, VOG P o S z ∧ k z := by
  have ok : ∀ x : Option Operand, okOpt x = true := fun x => by cases x <;> rfl
  unfold vGOp at h
  split at h
  · rename_i x ho; exact ⟨_, VOG_move (.inl ho) rfl, h⟩
  · rename_i x ho; exact ⟨_, VOG_move (.inr ho) rfl, h⟩
  · rename_i ho
    obtain ⟨u, v, h1, h2, h3, h4⟩ := vBin_sc hT h
    exact ⟨_, VOG_binOp ho rfl rfl h1 h2 h3, h4⟩
  · rename_i t x ho
    split at h <;> try exact h.elim
    rename_i i xs hi hx
    have hti := tiOf_ok (hT _ _ hi)
    split at h
    · rename_i hag
      split at h <;> try exact h.elim
      rename_i hle
      exact ⟨_, VOG_load_rpAgg ho rfl hx (by rw [hti.ag, hag]) hti.sz hle, h⟩
    · rename_i hag
      split at h <;> try exact h.elim
      rename_i z hz
      exact ⟨_, VOG_load_rp ho rfl hx (by rw [hti.ag]; simpa using hag) hz, h⟩
  · rename_i t x lo hi ho
    split at h <;> try exact h.elim
    rename_i n xs e ei hx hs
    obtain ⟨he, hei⟩ := szEl_ok hT hs
    split at h <;> try exact h.elim
    rename_i hn
    obtain ⟨c1, l, h, g1⟩ := vLo_ok h
    obtain ⟨c2, u, h, g2⟩ := vLo_ok h
    obtain ⟨h0, h⟩ := h
    obtain ⟨h1, h2, h3, h4⟩ := h0.h
    exact ⟨_, VOG_slice_sl ho rfl (ok _) (ok _) hx he (by rw [hei.sz, hn]) (g1 h1) (g2 h2) h3 h4, h⟩
  · rename_i g first caps ho
    split at h <;> try exact h.elim
    rename_i hf
    split at h <;> try exact h.elim
    rename_i hg
    exact ⟨_, VOG_makeFunc ho hf hg, h⟩
  · exact h.elim
/-- The surroundings from the region's own beginning on. -/
def envAt (E : Env P) (G : Nat → Prop) (gs : Gh) (S : State) (w : World) : Env P :=
  ⟨w, G, fun b => ∃ r row, rowAt S.rows r = some row ∧ b ∈ gs.all r, E.gv⟩
theorem Inv.at {E : Env P} {G : Nat → Prop} {gs : Gh} {tmps : Array Value} {w : World} (hi : Inv E G gs S tmps w) : Inv (envAt E G gs S w) G gs S tmps w :=
  ⟨fun _ _ _ => rfl, rfl, rfl, rfl, Nat.le_refl _, hi.sz, fun _ h => h, fun _ h => .inl h, hi.glt, hi.row, hi.nod, fun r row hr b hb => ⟨(hi.own r row hr b hb).1, .inl ⟨r, row, hr, hb⟩⟩, hi.dis, hi.tmp⟩
theorem Inv.back {E : Env P} {G G' : Nat → Prop} {gs gs' : Gh} {S' : State} {tmps tmps' : Array Value} {w w' : World} (hi : Inv E G gs S tmps w) (hi' : Inv (envAt E G gs S w) G' gs' S' tmps' w') : Inv E G' gs' S' tmps' w' := by
  have hfin : ∀ b, (∃ r row, rowAt S.rows r = some row ∧ b ∈ gs.all r) → E.Fin b ∨ E.w0.heap.size ≤ b := fun b ⟨r, row, hr, hb⟩ => (hi.own r row hr b hb).2
  refine ⟨fun b h hf => ?_, hi'.os.trans hi.os, hi'.tape.trans hi.tape, hi'.output.trans hi.output, Nat.le_trans hi.size hi'.size, hi'.sz, fun b h => hi'.gsub b (hi.gsub b h), fun b h => ?_, hi'.glt, hi'.row, hi'.nod, fun r row hr b hb => ?_, hi'.dis, hi'.tmp⟩
  · rw [hi'.keep b (Nat.lt_of_lt_of_le h hi.size) fun hb => by
      rcases hfin b hb with h1 | h1
      · exact hf h1
      · omega]
    exact hi.keep b h hf
  · rcases hi'.gnew b h with h1 | ⟨r, row, hr, hb⟩ | h1
    · exact hi.gnew b h1
    · exact .inr (hi.own r row hr b hb).2
    · exact .inr (.inr (Nat.le_trans hi.size h1))
  · refine ⟨(hi'.own r row hr b hb).1, ?_⟩
    rcases (hi'.own r row hr b hb).2 with h1 | h1
    · exact hfin b h1
    · exact .inr (Nat.le_trans hi.size h1)
end
end Go.Fw

/- Regions that draw their order, in which operations read rows that others leave alone for a while. Plain theorems, no condition. -/
set_option linter.unusedVariables false
set_option linter.unusedSimpArgs false
namespace Go.Fw

/-! The order of a region: what keeps a condition on the world, and what need not. -/
section
variable {P : Program} {ops : Array Oper} {Q : Exit → Act → World → Prop} {md : Region.Mode} {kp : Nat → Bool} {Sc : World → Prop}
/-- Whatever order is drawn; those that 'kp' names keep Sc. -/
def anyK (P : Program) (md : Region.Mode) (ops : Array Oper) (Q : Exit → Act → World → Prop) (kp : Nat → Bool) (Sc : World → Prop) : Nat → Array Bool → Act → World → Prop
  | 0, l, a, w => Region.ready md ops l = [] ∧ Q .normal a w
  | f + 1, l, a, w => (Region.ready md ops l = [] → Q .normal a w) ∧
    ∀ i ∈ Region.ready md ops l, wpOp P ops Q i (fun a' w' => (kp i = true → Sc w') ∧ anyK P md ops Q kp Sc f (l.setIfInBounds i true) a' w') a w
theorem any_of_K : ∀ (f : Nat) (l : Array Bool) (a : Act) (w : World), anyK P md ops Q kp Sc f l a w → wpAny P md ops Q f l a w
  | 0, _, _, _, h => h
  | f + 1, _, _, _, h => ⟨h.1, fun i hi => wpOp_mono (fun a' w' h' => any_of_K f _ a' w' h'.2) (h.2 i hi)⟩
/-- j waits for i, maybe through others. -/
def waitsB (md : Region.Mode) (ops : Array Oper) (i : Nat) : Nat → Nat → Bool
  | 0, _ => false
  | f + 1, j => match ops[j]? with
    | some oj => oj.after.any fun e => Region.binds md e && (e.on == i || waitsB md ops i f e.on)
    | none => false
/-- What has come up has come behind all that it waits for. -/
structure Closed (md : Region.Mode) (ops : Array Oper) (l : Array Bool) : Prop where
  h : ∀ j oj, ops[j]? = some oj → l.getD j false = true → ∀ e ∈ oj.after, Region.binds md e = true → l.getD e.on false = true
def closedB (md : Region.Mode) (ops : Array Oper) (l : Array Bool) : Bool :=
  (List.range ops.size).all fun j => !l.getD j false || match ops[j]? with
    | some oj => oj.after.all fun e => !Region.binds md e || l.getD e.on false
    | none => true
theorem closedB_ok {l : Array Bool} (h : closedB md ops l = true) : Closed md ops l := ⟨fun j oj hj hl e he hb => by
  simp only [closedB, List.all_eq_true, List.mem_range] at h
  have h1 := h j (Array.getElem?_eq_some_iff.1 hj).1
  simp only [hj, hl, Bool.not_true, Bool.false_or, Array.all_eq_true_iff_forall_mem] at h1
  have h2 := h1 e he
  simpa [hb] using h2⟩
theorem Closed.waits {l : Array Bool} (hc : Closed md ops l) {i : Nat} (hi : l.getD i true = false) : ∀ (f j : Nat), (∀ oj, ops[j]? = some oj → ∀ e ∈ oj.after, Region.binds md e = true → l.getD e.on false = true) → waitsB md ops i f j = false
  | 0, j, _ => rfl
  | f + 1, j, h => by
    unfold waitsB
    split
    · rename_i oj hj
      rw [Array.any_eq_false]
      intro k hk
      simp only [Bool.and_eq_true, Bool.or_eq_true, beq_iff_eq, not_and, not_or]
      intro hb
      have h1 := h oj hj _ (Array.getElem_mem hk) hb
      refine ⟨fun e => ?_, by simp [hc.waits hi f _ fun oj' hj' => hc.h _ oj' hj' h1]⟩
      rw [e, getD_both hi] at h1
      cases h1
    · rfl
theorem Closed.set {l : Array Bool} (hc : Closed md ops l) {j : Nat} (hj : j ∈ Region.ready md ops l) : Closed md ops (l.setIfInBounds j true) := ⟨fun k ok hk hl e he hb => by
  obtain ⟨_, oj, hoj, hall⟩ := mem_ready.1 hj
  refine getD_set_true ?_
  by_cases hjk : j = k
  · subst hjk
    rw [hoj] at hk
    obtain rfl := Option.some.inj hk
    exact hall e he hb
  · rw [getD_set_ne false hjk] at hl
    exact hc.h k ok hk hl e he hb⟩
/-- All that may still come ahead of i keeps Sc. -/
def kfree (md : Region.Mode) (ops : Array Oper) (kp : Nat → Bool) (l : Array Bool) (i : Nat) : Bool :=
  closedB md ops l && (List.range ops.size).all fun j => j == i || l.getD j true || match ops[j]? with
    | some oj => waitsB md ops i ops.size j || (oj.after.any (fun e => Region.binds md e && e.on == i) || kp j) && (match ops[i]? with
      | some oi => oi.apart ops oj
      | none => false)
    | none => true
theorem kfree_spec {i : Nat} {oi : Oper} {l : Array Bool} (hi : ops[i]? = some oi) (h : kfree md ops kp l i = true) (j : Nat) (oj : Oper) (hj : ops[j]? = some oj) (hne : j ≠ i) (hun : l.getD j true = false)
    (hno : waitsB md ops i ops.size j = false) (hdir : ∀ e ∈ oj.after, Region.binds md e = true → e.on ≠ i) : oi.apart ops oj = true ∧ kp j = true := by
  simp only [kfree, Bool.and_eq_true, List.all_eq_true, List.mem_range] at h
  have h1 := h.2 j (Array.getElem?_eq_some_iff.1 hj).1
  simp only [hj, hi, Bool.or_eq_true, beq_iff_eq, hne, false_or, hun, hno, Bool.false_eq_true, Bool.and_eq_true] at h1
  refine ⟨h1.2, h1.1.resolve_left fun h2 => ?_⟩
  obtain ⟨e, he, hb⟩ := Array.any_eq_true'.1 h2
  simp only [Bool.and_eq_true, beq_iff_eq] at hb
  exact hdir e he hb.1 hb.2
theorem anyK_first {i : Nat} {oi : Oper} {v : Value} (hi : ops[i]? = some oi) (hsel : ∀ (j : Nat) (o : Oper) cs b, ops[j]? = some o → o.op ≠ .select cs b)
    (hQ : ∀ c a w, Q (.panic c) (a.put oi.dst v) w → Q (.panic c) a w) : ∀ (f : Nat) (l : Array Bool) (a : Act) (w : World), Closed md ops l →
    (∀ j oj, ops[j]? = some oj → j ≠ i → l.getD j true = false → waitsB md ops i ops.size j = false → (∀ e ∈ oj.after, Region.binds md e = true → e.on ≠ i) → oi.apart ops oj = true ∧ kp j = true) →
    i ∈ Region.ready md ops l → YieldsIf P ops Sc oi v a → Sc w → anyK P md ops Q kp Sc f (l.setIfInBounds i true) (a.put oi.dst v) w → anyK P md ops Q kp Sc (f + 1) l a w := by
  intro f
  induction f with
  | zero =>
    intro l a w _ _ hr hy hS H
    refine ⟨fun h => (by rw [h] at hr; cases hr), fun j hj => ?_⟩
    by_cases hji : j = i
    · subst hji; exact hy.wpOp hi hS ⟨fun _ => hS, H⟩
    · have h1 := ready_mono hj hji
      rw [H.1] at h1
      cases h1
  | succ f ih =>
    intro l a w hcl hfree hr hy hS H
    refine ⟨fun h => (by rw [h] at hr; cases hr), fun j hj => ?_⟩
    by_cases hji : j = i
    · subst hji; exact hy.wpOp hi hS ⟨fun _ => hS, H⟩
    · obtain ⟨hjun, oj, hoj, hall⟩ := mem_ready.1 hj
      have hin := (mem_ready.1 hr).1
      have hnot : ∀ e ∈ oj.after, Region.binds md e = true → e.on ≠ i := fun e he hb heq => by
        have h1 := hall e he hb
        rw [heq, getD_both hin] at h1
        cases h1
      have hw : waitsB md ops i ops.size j = false := hcl.waits hin _ _ fun oj' hj' e he hb => by
        rw [hoj] at hj'
        obtain rfl := Option.some.inj hj'
        exact hall e he hb
      obtain ⟨hap, hkp⟩ := hfree j oj hoj hji hjun hw hnot
      refine wpOp_mono (fun a' w' h3 => ⟨fun _ => h3.2.1 hkp, ih (l.setIfInBounds j true) a' w' (hcl.set hj) (fun k ok hk hki hun hno hd => ?_) (ready_mono hr (Ne.symm hji)) h3.1 (h3.2.1 hkp) ?_⟩)
        (wpOp_putIf hoj hap (fun cs b => hsel i oi cs b hi) (fun cs b => hsel j oj cs b hoj) hQ hy (H.2 j (ready_mono hj hji)))
      · refine hfree k ok hk hki ?_ hno hd
        by_cases hjk : j = k
        · subst hjk; exact hjun
        · rw [getD_set_ne true hjk] at hun; exact hun
      · rw [Array.setIfInBounds_comm _ _ hji]
        exact h3.2.2
theorem anyK_take {i : Nat} {oi : Oper} {v : Value} {f : Nat} {l : Array Bool} {a : Act} {w : World} (hi : ops[i]? = some oi) (hs : Region.noSelect ops = true) (hk : kfree md ops kp l i = true)
    (hr : (Region.ready md ops l).contains i = true) (hQ : ∀ c a w, Q (.panic c) (a.put oi.dst v) w → Q (.panic c) a w) (hy : YieldsIf P ops Sc oi v a) (hS : Sc w)
    (h : anyK P md ops Q kp Sc f (l.setIfInBounds i true) (a.put oi.dst v) w) : anyK P md ops Q kp Sc (f + 1) l a w :=
  anyK_first hi (Region.noSelect_spec hs) hQ f l a w (closedB_ok (by simp only [kfree, Bool.and_eq_true] at hk; exact hk.1)) (kfree_spec hi hk) (by simpa using hr) hy hS h
end

/-! Rows that are lent: for a while nothing is told of them but that they stand. -/
mutual
/-- It leads into rows rs alone. -/
def onlyR (rs : List Nat) : A → Bool
  | .vw r _ _ => rs.contains r
  | .pt r _ _ => rs.contains r
  | .agg xs => onlyRL rs xs
  | .tup xs => onlyRL rs xs
  | .clo _ xs => onlyRL rs xs
  | .un => true
  | .sc _ => true
  | .nil => true
  | .sl _ _ _ => true
  | .rp _ => true
  | .bx _ => true
def onlyRL (rs : List Nat) : List A → Bool
  | [] => true
  | x :: xs => onlyR rs x && onlyRL rs xs
end
theorem onlyRL_eq (rs : List Nat) : ∀ xs : List A, onlyRL rs xs = xs.all (onlyR rs)
  | [] => rfl
  | x :: xs => by rw [onlyRL, onlyRL_eq rs xs, List.all_cons]
theorem TRel.on {w w' : World} {G G' : Nat → Prop} {rows rows' : List (Option Row)} {gs gs' : Gh} {rs : List Nat} (hG : ∀ b, G b → G' b ∧ w'.heap[b]? = w.heap[b]?) (hR : ∀ r ∈ rs, RowLe w w' rows rows' gs gs' r)
    {x : A} {v : Value} {F : List Nat} (h : TRel w G rows gs x v F) (ho : onlyR rs x = true) (hF : ∀ b ∈ F, w'.heap[b]? = w.heap[b]?) : TRel w' G' rows' gs' x v F := by
  refine TRel.rec (motive_1 := fun x v F _ => onlyR rs x = true → (∀ b ∈ F, w'.heap[b]? = w.heap[b]?) → TRel w' G' rows' gs' x v F)
    (motive_2 := fun xs vs F _ => xs.all (onlyR rs) = true → (∀ b ∈ F, w'.heap[b]? = w.heap[b]?) → TRelL w' G' rows' gs' xs vs F) ?_ ?_ ?_ ?_ ?_ ?_ ?_ ?_ ?_ ?_ h ho hF
  · intros; exact .un
  · intro x v F h _ hF; exact .of (h.move_ hG hF)
  · intro r off len k cap b row cur e hr hob hl hh hs hm hc hk ho _
    obtain ⟨row', hr', hg, hn, hx, hb⟩ := (hR r (by simpa [onlyR] using ho)).le row hr
    obtain ⟨cur', e', hh', hs'⟩ := hb b cur e hob hh
    exact .vw hr' (by rw [hg]; exact hob) (by omega) hh' (by rw [hs', hs, hn]) hm (by omega) (by rw [hn]; exact hk)
  · intro r row hr hob hxs ho _
    obtain ⟨row', hr', hg, hn, hx, hb⟩ := (hR r (by simpa [onlyR] using ho)).le row hr
    exact .vwn hr' (by rw [hg]; exact hob) (by rw [hxs] at hx; exact List.eq_nil_of_length_eq_zero hx)
  · intro r j o k b row hr hob hk ho _
    obtain ⟨row', hr', hg, hn, hx, hb⟩ := (hR r (by simpa [onlyR] using ho)).le row hr
    exact .pt hr' (by rw [hg]; exact hob) (by rw [hn]; exact hk)
  · intro xs cs F hl ih ho hF; exact .agg (ih (by rw [← onlyRL_eq]; simpa [onlyR] using ho) hF)
  · intro xs cs F hl ih ho hF; exact .tup (ih (by rw [← onlyRL_eq]; simpa [onlyR] using ho) hF)
  · intro g caps cs F hl ih ho hF; exact .clo (ih (by rw [← onlyRL_eq]; simpa [onlyR] using ho) hF)
  · intro _ _; exact .nil
  · intro x v F xs vs Fs h hl ih ih' ho hF
    rw [List.all_cons, Bool.and_eq_true] at ho
    exact .cons (ih ho.1 fun b hb => hF b (by simp [hb])) (ih' ho.2 fun b hb => hF b (by simp [hb]))
theorem TRelL.on {w w' : World} {G G' : Nat → Prop} {rows rows' : List (Option Row)} {gs gs' : Gh} {rs : List Nat} (hG : ∀ b, G b → G' b ∧ w'.heap[b]? = w.heap[b]?) (hR : ∀ r ∈ rs, RowLe w w' rows rows' gs gs' r) :
    ∀ {xs : List A} {vs : List Value} {F : List Nat}, TRelL w G rows gs xs vs F → xs.all (onlyR rs) = true → (∀ b ∈ F, w'.heap[b]? = w.heap[b]?) → TRelL w' G' rows' gs' xs vs F
  | _, _, _, .nil, _, _ => .nil
  | _, _, _, .cons h hl, ho, hF => by
    rw [List.all_cons, Bool.and_eq_true] at ho
    exact .cons (h.on hG hR ho.1 fun b hb => hF b (by simp [hb])) (hl.on hG hR ho.2 fun b hb => hF b (by simp [hb]))
def rowOnly (rs : List Nat) (row : Row) : Bool := !row.lk || (flat row.xs).all (onlyR rs)
theorem RowRel.on {w w' : World} {G G' : Nat → Prop} {rows rows' : List (Option Row)} {gs gs' : Gh} {rs : List Nat} (hG : ∀ b, G b → G' b ∧ w'.heap[b]? = w.heap[b]?) (hR : ∀ r ∈ rs, RowLe w w' rows rows' gs gs' r)
    {row : Row} {ob : Option Nat} {F : List Nat} (h : RowRel w G rows gs row ob F) (ho : rowOnly rs row = true) (hF : ∀ b ∈ ob.toList ++ F, w'.heap[b]? = w.heap[b]?) : RowRel w' G' rows' gs' row ob F := by
  cases ob with
  | none => exact h
  | some b =>
    obtain ⟨cur, e, cap, h1, h2, h3, h4, h5, h6, h7⟩ := h.ex
    have hF' : ∀ c ∈ F, w'.heap[c]? = w.heap[c]? := fun c hc => hF c (by simp [hc])
    refine ⟨cur, e, cap, by rw [hF b (by simp)]; exact h1, h2, h3, h4, h5, h6, ?_⟩
    unfold CellsRel at h7 ⊢
    split
    · rename_i hl
      rw [if_pos hl] at h7
      exact h7.on hG hR (by simpa [rowOnly, hl] using ho) hF'
    · rename_i hl
      rw [if_neg hl] at h7
      exact h7.move_ hG hF'

def State.turns : List Nat → State → State
  | [], S => S
  | r :: rs, S => State.turns rs (S.turn r none)
def lentT (vs : Nat → Value) : List Nat → List (Nat × A) → List (Nat × A)
  | [], t => t
  | i :: hs, t => (i, .sc (vs i)) :: lentT vs hs t
/-- Rows rs are lent; the temporaries hs are kept as they are. -/
def State.lend (S : State) (rs hs : List Nat) (vs : Nat → Value) : State := ⟨lentT vs hs (S.turns rs).t, S.N, (S.turns rs).rows⟩
def backT (S : State) : List Nat → List (Nat × A) → List (Nat × A)
  | [], t => t
  | i :: hs, t => (i, lk S.t i) :: backT S hs t
def backR (S : State) : List Nat → List (Option Row) → List (Option Row)
  | [], rows => rows
  | r :: rs, rows => backR S rs (rows.set r (rowAt S.rows r))
/-- They are given back. -/
def State.unlend (S2 S : State) (rs hs : List Nat) : State := ⟨backT S hs S2.t, S2.N, backR S rs S2.rows⟩
theorem lk_lentT (vs : Nat → Value) : ∀ (hs : List Nat) (t : List (Nat × A)) (i : Nat), lk (lentT vs hs t) i = if i ∈ hs then .sc (vs i) else lk t i
  | [], t, i => by simp [lentT]
  | j :: hs, t, i => by
    simp only [lentT, lk, lk_lentT vs hs t i, List.mem_cons]
    by_cases h : j = i
    · subst h; simp
    · rw [if_neg h]
      by_cases h2 : i ∈ hs
      · simp [h2]
      · simp only [h2, or_false, if_false]
        rw [if_neg fun e => h e.symm]
theorem lk_backT (S : State) : ∀ (hs : List Nat) (t : List (Nat × A)) (i : Nat), lk (backT S hs t) i = if i ∈ hs then lk S.t i else lk t i
  | [], t, i => by simp [backT]
  | j :: hs, t, i => by
    simp only [backT, lk, lk_backT S hs t i, List.mem_cons]
    by_cases h : j = i
    · subst h; simp
    · rw [if_neg h]
      by_cases h2 : i ∈ hs
      · simp [h2]
      · simp only [h2, or_false, if_false]
        rw [if_neg fun e => h e.symm]
theorem rowAt_backR (S : State) : ∀ (rs : List Nat) (rows : List (Option Row)) (i : Nat), (∀ r ∈ rs, r < rows.length) → rowAt (backR S rs rows) i = if i ∈ rs then rowAt S.rows i else rowAt rows i
  | [], rows, i, _ => by simp [backR]
  | r :: rs, rows, i, h => by
    rw [backR, rowAt_backR S rs _ i (fun q hq => by rw [List.length_set]; exact h q (by simp [hq]))]
    simp only [List.mem_cons]
    by_cases h2 : i ∈ rs
    · simp [h2]
    · rw [if_neg h2, rowAt_set _ _ _ _ (h r (by simp))]
      by_cases h3 : i = r
      · subst h3; simp
      · simp [h2, h3]
section
variable {P : Program} {T : Nat → Option TI} {E : Env P} {G : Nat → Prop} {gs : Gh} {S : State} {a : Act} {w : World} {tmps : Array Value}
theorem Inv.turns : ∀ (rs : List Nat) {S : State} {gs : Gh}, Inv E G gs S tmps w → rs.Nodup → (∀ r ∈ rs, ∃ row, rowAt S.rows r = some row) →
    ∃ gs', Inv E G gs' (S.turns rs) tmps w ∧ (∀ r, r ∉ rs → gs' r = gs r) ∧ ∀ r ∈ rs, rowAt (S.turns rs).rows r = none
  | [], S, gs, hi, _, _ => ⟨gs, hi, fun _ _ => rfl, by simp⟩
  | q :: rs, S, gs, hi, hnd, hr => by
    obtain ⟨row, hq⟩ := hr q (by simp)
    rw [List.nodup_cons] at hnd
    have h1 := hi.turn (x := none) (ob := none) (F := []) hq rfl rfl rfl (Nat.le_refl _) (fun _ _ _ => rfl) (by simp) (by simp) (by simp) (by simp)
    obtain ⟨gs', h2, h3, h4⟩ := Inv.turns rs h1 hnd.2 (fun r hrr => by
      obtain ⟨row', h⟩ := hr r (by simp [hrr])
      refine ⟨killRow q row', ?_⟩
      rw [rowAt_turn hq, if_neg (fun e => hnd.1 (by rw [← e]; exact hrr)), h]; rfl)
    have keepNone : ∀ (rs : List Nat) (S : State), rowAt S.rows q = none → rowAt (S.turns rs).rows q = none := by
      intro rs
      induction rs with
      | nil => intro S h; exact h
      | cons r rs ih =>
        intro S h
        refine ih _ ?_
        show rowAt ((killRows r S.rows).set r none) q = none
        by_cases hlt : r < (killRows r S.rows).length
        · rw [rowAt_set _ _ _ _ hlt]
          split
          · rfl
          · rw [rowAt_killRows, h]; rfl
        · rw [List.set_eq_of_length_le (by omega), rowAt_killRows, h]; rfl
    refine ⟨gs', h2, fun r hrn => ?_, fun r hrr => ?_⟩
    · rw [h3 r (fun h => hrn (by simp [h]))]
      simp only [Gh.add]
      rw [if_neg fun e => hrn (by simp [e])]
    · rcases List.mem_cons.1 hrr with rfl | h
      · refine keepNone rs _ ?_
        rw [rowAt_turn hq, if_pos rfl]
      · exact h4 r h
/-- One cell. -/
def oneA' : A → Bool
  | .agg _ => false
  | .tup _ => false
  | .clo _ _ => false
  | .un => false
  | _ => true
theorem cell_of {rows : List (Option Row)} {x : A} {v : Value} (h : TRel w G rows gs x v []) (hx : oneA' x = true) : cellV v = true := by
  cases h with
  | un => cases hx
  | of h => cases h <;> first | rfl | assumption | cases hx
  | vw => rfl
  | vwn => rfl
  | pt => rfl
  | agg => cases hx
  | tup => cases hx
  | clo => cases hx
def AgreeR (G : Nat → Prop) (gs : Gh) (rs : List Nat) (w w' : World) : Prop := ∀ b, (G b ∨ ∃ r ∈ rs, b ∈ gs.all r) → w'.heap[b]? = w.heap[b]?
def envL (E : Env P) (G : Nat → Prop) (gs gs' : Gh) (S : State) (rs : List Nat) (tmps : Array Value) (w : World) : Env P := ⟨w, G, fun b => ∃ r row, rowAt (S.turns rs).rows r = some row ∧ b ∈ gs'.all r, E.gv⟩
theorem Inv.lend (hi : Inv E G gs S tmps w) {rs hs : List Nat} (hnd : rs.Nodup) (hr : ∀ r ∈ rs, ∃ row, rowAt S.rows r = some row) (hone : ∀ i ∈ hs, oneA' (lk S.t i) = true) :
    ∃ gs', Inv (envL E G gs gs' S rs tmps w) G gs' (S.lend rs hs (vat E tmps)) tmps w ∧ (∀ r, r ∉ rs → gs' r = gs r) ∧ ∀ r ∈ rs, rowAt (S.turns rs).rows r = none := by
  obtain ⟨gs', h1, h2, h3⟩ := Inv.turns rs hi hnd hr
  refine ⟨gs', ⟨fun _ _ _ => rfl, rfl, rfl, rfl, Nat.le_refl _, hi.sz, fun _ h => h, fun _ h => .inl h, hi.glt, h1.row, h1.nod, fun r row hr b hb => ⟨(h1.own r row hr b hb).1, .inl ⟨r, row, hr, hb⟩⟩, h1.dis, fun i => ?_⟩, h2, h3⟩
  show TRel w G (S.turns rs).rows gs' (lk (lentT (vat E tmps) hs (S.turns rs).t) i) (vat E tmps i) []
  rw [lk_lentT]
  split
  · rename_i h
    exact .of (.sc (cell_of (hi.tmp i) (hone i h)))
  · exact h1.tmp i
theorem turns_none {rs : List Nat} : ∀ {S : State} {r : Nat}, rowAt S.rows r = none → rowAt (S.turns rs).rows r = none := by
  induction rs with
  | nil => exact id
  | cons q rs ih =>
    intro S r h
    refine ih ?_
    show rowAt ((killRows q S.rows).set q none) r = none
    by_cases hlt : q < (killRows q S.rows).length
    · rw [rowAt_set _ _ _ _ hlt]
      split
      · rfl
      · rw [rowAt_killRows, h]; rfl
    · rw [List.set_eq_of_length_le (by omega), rowAt_killRows, h]; rfl
theorem lent_fin (hi : Inv E G gs S tmps w) {rs : List Nat} {gs0 : Gh} (hgs0 : ∀ r, r ∉ rs → gs0 r = gs r) (hno : ∀ r ∈ rs, rowAt (S.turns rs).rows r = none) (hrow : ∀ r ∈ rs, ∃ row, rowAt S.rows r = some row) :
    ∀ r ∈ rs, ∀ b ∈ gs.all r, ¬ (envL E G gs gs0 S rs tmps w).Fin b := fun r hr b hb ⟨r', row', hr', hb'⟩ => by
  obtain ⟨row, hrw⟩ := hrow r hr
  have hne : r' ∉ rs := fun h => by rw [hno r' h] at hr'; cases hr'
  have e : gs0.all r' = gs.all r' := by simp only [Gh.all, hgs0 r' hne]
  rw [e] at hb'
  obtain ⟨row0, h0⟩ : ∃ row0, rowAt S.rows r' = some row0 := by
    cases h : rowAt S.rows r' with
    | none => rw [turns_none h] at hr'; cases hr'
    | some row0 => exact ⟨row0, rfl⟩
  exact hi.dis r r' row row0 hrw h0 (fun e => hne (by rw [← e]; exact hr)) b hb hb'
theorem lent_agree (hi : Inv E G gs S tmps w) {rs : List Nat} {gs0 : Gh} (hgs0 : ∀ r, r ∉ rs → gs0 r = gs r) (hno : ∀ r ∈ rs, rowAt (S.turns rs).rows r = none) {G' : Nat → Prop} {gs2 : Gh} {S2 : State} {tmps' : Array Value} {w' : World}
    (hi2 : Inv (envL E G gs gs0 S rs tmps w) G' gs2 S2 tmps' w') (hrow : ∀ r ∈ rs, ∃ row, rowAt S.rows r = some row) : AgreeR G gs rs w w' := fun b hb => by
  rcases hb with hb | ⟨r, hr, hb⟩
  · refine hi2.keep b (hi.glt b hb) fun ⟨r', row', hr', hb'⟩ => ?_
    have hne : r' ∉ rs := fun h => by rw [hno r' h] at hr'; cases hr'
    have e : gs0.all r' = gs.all r' := by simp only [Gh.all, hgs0 r' hne]
    rw [e] at hb'
    obtain ⟨row0, h0⟩ : ∃ row0, rowAt S.rows r' = some row0 := by
      cases h : rowAt S.rows r' with
      | none => rw [turns_none h] at hr'; cases hr'
      | some row0 => exact ⟨row0, rfl⟩
    exact (hi.own r' row0 h0 b hb').1 hb
  · obtain ⟨row, hrw⟩ := hrow r hr
    exact hi2.keep b (hi.block_lt hrw b hb) (lent_fin hi hgs0 hno hrow r hr b hb)
theorem Inv.unlend (hi : Inv E G gs S tmps w) {rs hs : List Nat} {gs0 : Gh} (hgs0 : ∀ r, r ∉ rs → gs0 r = gs r) (hno : ∀ r ∈ rs, rowAt (S.turns rs).rows r = none) {G' : Nat → Prop} {gs2 : Gh} {S2 : State} {tmps' : Array Value} {w' : World}
    (hi2 : Inv (envL E G gs gs0 S rs tmps w) G' gs2 S2 tmps' w') (h1 : ∀ i ∈ hs, lk S2.t i = .sc (vat E tmps i)) (h2 : ∀ r ∈ rs, rowAt S2.rows r = none ∧ r < S2.rows.length)
    (hon : ∀ i ∈ hs, onlyR rs (lk S.t i) = true) (hrow : ∀ r ∈ rs, ∃ row, rowAt S.rows r = some row ∧ rowOnly rs row = true) :
    Inv (envAt E G gs S w) G' (fun r => if r ∈ rs then gs r else gs2 r) (S2.unlend S rs hs) tmps' w' ∧ AgreeR G gs rs w w' := by
  have hsame : ∀ r, rowAt S.rows r = none → rowAt (S.turns rs).rows r = none := fun r h => turns_none h
  have hrow' : ∀ r ∈ rs, ∃ row, rowAt S.rows r = some row := fun r hr => let ⟨row, h, _⟩ := hrow r hr; ⟨row, h⟩
  have hfin := lent_fin (E := E) hi hgs0 hno hrow'
  have hag := lent_agree hi hgs0 hno hi2 hrow'
  refine ⟨?_, hag⟩
  have hG : ∀ b, G b → G' b ∧ w'.heap[b]? = w.heap[b]? := fun b hb => ⟨hi2.gsub b hb, hag b (.inl hb)⟩
  have hrat : ∀ r, rowAt (S2.unlend S rs hs).rows r = if r ∈ rs then rowAt S.rows r else rowAt S2.rows r := fun r => rowAt_backR S rs S2.rows r fun q hq => (h2 q hq).2
  have hleS : ∀ r ∈ rs, RowLe w w' S.rows (S2.unlend S rs hs).rows gs (fun r => if r ∈ rs then gs r else gs2 r) r := fun r hr => RowLe.mk fun row hrw => by
    refine ⟨row, by rw [hrat, if_pos hr]; exact hrw, by simp [hr], rfl, rfl, fun b cur e hob hh => ⟨cur, e, ?_, rfl⟩⟩
    rw [hag b (.inr ⟨r, hr, by simp [Gh.all, hob]⟩)]; exact hh
  have hle2 : ∀ r, RowLe w' w' S2.rows (S2.unlend S rs hs).rows gs2 (fun r => if r ∈ rs then gs r else gs2 r) r := fun r => RowLe.refl_of fun row hrw => by
    have hne : r ∉ rs := fun h => by rw [(h2 r h).1] at hrw; cases hrw
    exact ⟨by rw [hrat, if_neg hne]; exact hrw, by simp [hne], fun _ _ => rfl⟩
  have hall1 : ∀ r ∈ rs, Gh.all (fun r => if r ∈ rs then gs r else gs2 r) r = gs.all r := fun r hr => by simp only [Gh.all, if_pos hr]
  have hall2 : ∀ r, r ∉ rs → Gh.all (fun r => if r ∈ rs then gs r else gs2 r) r = gs2.all r := fun r hr => by simp only [Gh.all, if_neg hr]
  have hsz : (envL E G gs gs0 S rs tmps w).w0 = w := rfl
  have fin2 : ∀ b, (envL E G gs gs0 S rs tmps w).Fin b → (envAt E G gs S w).Fin b := fun b ⟨r', row', hr', hb'⟩ => by
    have hne : r' ∉ rs := fun h => by rw [hno r' h] at hr'; cases hr'
    have e : gs0.all r' = gs.all r' := by simp only [Gh.all, hgs0 r' hne]
    rw [e] at hb'
    cases h : rowAt S.rows r' with
    | none => rw [hsame r' h] at hr'; cases hr'
    | some row0 => exact ⟨r', row0, h, hb'⟩
  have hdis : ∀ r ∈ rs, ∀ r' row', r' ∉ rs → rowAt S2.rows r' = some row' → ∀ b ∈ gs.all r, b ∉ gs2.all r' := fun r hr r' row' hne hr' b hb hb' => by
    obtain ⟨row, hrw, _⟩ := hrow r hr
    rcases (hi2.own r' row' hr' b hb').2 with h | h
    · exact hfin r hr b hb h
    · have := hi.block_lt hrw b hb
      rw [hsz] at h
      omega
  refine ⟨fun b hb hf => hi2.keep b hb fun h => hf (fin2 b h), hi2.os, hi2.tape, hi2.output, hi2.size, hi2.sz, hi2.gsub, fun b hb => (hi2.gnew b hb).imp id (Or.imp (fin2 b) id), hi2.glt, fun r row hr => ?_, fun r row hr => ?_, fun r row hr b hb => ?_, fun r r' row row' hr hr' hne b hb hb' => ?_, fun i => ?_⟩
  · rw [hrat] at hr
    split at hr
    · rename_i h
      obtain ⟨row0, h0, h3⟩ := hrow r h
      rw [hr] at h0
      obtain rfl := Option.some.inj h0
      rw [if_pos h]
      exact (hi.row r row hr).on hG hleS h3 fun b hb => hag b (.inr ⟨r, h, hb⟩)
    · rename_i h
      rw [if_neg h]
      exact (hi2.row r row hr).step (fun b hb => ⟨hb, rfl⟩) hle2 fun _ _ => rfl
  · rw [hrat] at hr
    split at hr
    · rename_i h; rw [hall1 r h]; exact hi.nod r row hr
    · rename_i h; rw [hall2 r h]; exact hi2.nod r row hr
  · rw [hrat] at hr
    split at hr
    · rename_i h
      rw [hall1 r h] at hb
      refine ⟨fun hg => ?_, .inl ⟨r, row, hr, hb⟩⟩
      rcases hi2.gnew b hg with h' | h' | h'
      · exact (hi.own r row hr b hb).1 h'
      · exact hfin r h b hb h'
      · have := hi.block_lt hr b hb
        rw [hsz] at h'
        omega
    · rename_i h
      rw [hall2 r h] at hb
      obtain ⟨g1, g2⟩ := hi2.own r row hr b hb
      exact ⟨g1, g2.imp (fin2 b) id⟩
  · rw [hrat] at hr hr'
    split at hr
    · rename_i h
      rw [hall1 r h] at hb
      split at hr'
      · rename_i h'
        rw [hall1 r' h'] at hb'
        exact hi.dis r r' row row' hr hr' hne b hb hb'
      · rename_i h'
        rw [hall2 r' h'] at hb'
        exact hdis r h r' row' h' hr' b hb hb'
    · rename_i h
      rw [hall2 r h] at hb
      split at hr'
      · rename_i h'
        rw [hall1 r' h'] at hb'
        exact hdis r' h' r row h hr b hb' hb
      · rename_i h'
        rw [hall2 r' h'] at hb'
        exact hi2.dis r r' row row' hr hr' hne b hb hb'
  · show TRel w' G' (S2.unlend S rs hs).rows _ (lk (backT S hs S2.t) i) (vat (envAt E G gs S w) tmps' i) []
    rw [lk_backT]
    have hv : vat (envAt E G gs S w) tmps' i = vat (envL E G gs gs0 S rs tmps w) tmps' i := rfl
    rw [hv]
    split
    · rename_i h
      have h3 := hi2.tmp i
      rw [h1 i h] at h3
      rw [(sc_inv h3).1]
      exact (hi.tmp i).on hG hleS (hon i h) (by simp)
    · exact (hi2.tmp i).step (fun b hb => ⟨hb, rfl⟩) hle2 (by simp)
end
end Go.Fw

/- Regions that draw their order, in which some operations read rows that others leave alone: what is read, and the rule. Plain theorems, no condition. -/
set_option linter.unusedVariables false
set_option linter.unusedSimpArgs false
namespace Go.Fw
section
variable {P : Program} {T : Nat → Option TI} {S : State} {o : Oper} {rs : List Nat}
/-- The operation yields a value told by x, the same one as long as what may be read, and rows rs, stand. -/
def VOR (P : Program) (o : Oper) (S : State) (rs : List Nat) (x : A) : Prop :=
  ∀ (E : Env P) (G : Nat → Prop) (gs : Gh) (a : Act) (w : World), Inv E G gs S a.tmps w →
    ∃ v, (∀ w', AgreeR G gs rs w w' → (execOp a.eval o).run P w' = .ok (.value v) w') ∧ TRel w G S.rows gs x v []
theorem VOG.r {x : A} (h : VOG P o S x) : VOR P o S rs x := fun E G gs a w hi => by
  obtain ⟨v, h1, h2⟩ := h E G gs a w hi
  exact ⟨v, fun w' hw' => h1 w' fun b hb => hw' b (.inl hb), h2⟩
theorem VOR_load_pt {t : TypeId} {x : Operand} {r j q : Nat} {row : Row} {y z : A} (ho : o.op = .load t x) (hx : okO x = true) (he : ev S x = .pt r j q) (hr : rowAt S.rows r = some row) (hrs : r ∈ rs)
    (hy : row.xs[j]? = some y) (ha : aggT P t = some false) (hz : y.cells[q]? = some z) (hno : noOwn z = true) : VOR P o S rs z := by
  refine fun E G gs a w hi => ?_
  have h1 := ev_rel hi x hx
  rw [he] at h1
  obtain ⟨row', b, hr', hb, hv⟩ := pt_inv h1
  rw [hr] at hr'
  obtain rfl := Option.some.inj hr'
  have hq : q < y.cells.length := by
    rcases Nat.lt_or_ge q y.cells.length with h | h
    · exact h
    · rw [List.getElem?_eq_none h] at hz; simp at hz
  have hw : y.width = row.n := by
    obtain ⟨b', _, hrc⟩ := row_real hi hr (by
      intro h0
      rw [List.eq_nil_of_length_eq_zero h0] at hy
      simp at hy)
    obtain ⟨_, _, _, _, _, _, _, h5, _⟩ := hrc.ex
    exact h5 y (List.mem_of_getElem? hy)
  unfold A.width at hw
  have hseg : (y.cells.drop q).take 1 = [z] := by
    rw [List.drop_eq_getElem_cons hq]
    rw [List.getElem?_eq_getElem hq] at hz
    simp only [Option.some.injEq] at hz
    simp [hz]
  obtain ⟨b1, cur, e, cs, g0, g1, g2, g3, g4⟩ := row_seg hi hr hy (o := q) (s := 1) (by omega) (by rw [hseg]; simpa using hno)
  rw [hb] at g0
  obtain rfl := Option.some.inj g0
  rw [hseg] at g3
  obtain ⟨v, hv1, hv2⟩ := g3.get 0 z rfl
  have hcur : cur[j * row.n + q]? = some v := by
    rw [← g2] at hv1
    rw [List.getElem?_take_of_lt (by omega), List.getElem?_drop] at hv1
    simpa using hv1
  exact ⟨v, fun w' hw' => by simp [execOp, ho, Instr.loadAt, hv, Instr.sureAddr, run_loadVar_cell ha ((hw' _ (.inr ⟨r, hrs, by simp [Gh.all, hb]⟩)).trans g1) hcur], hv2⟩
theorem VOR_load_ptAgg {t : TypeId} {x : Operand} {r j q s : Nat} {row : Row} {y : A} (ho : o.op = .load t x) (hx : okO x = true) (he : ev S x = .pt r j q) (hr : rowAt S.rows r = some row) (hrs : r ∈ rs)
    (hy : row.xs[j]? = some y) (ha : aggT P t = some true) (hs : szT P t = some s) (hq : q + s ≤ row.n) (hno : ((y.cells.drop q).take s).all noOwn = true) : VOR P o S rs (.agg ((y.cells.drop q).take s)) := by
  refine fun E G gs a w hi => ?_
  have h1 := ev_rel hi x hx
  rw [he] at h1
  obtain ⟨row', b, hr', hb, hv⟩ := pt_inv h1
  rw [hr] at hr'
  obtain rfl := Option.some.inj hr'
  obtain ⟨b1, cur, e, cs, g0, g1, g2, g3, g4⟩ := row_seg hi hr hy hq hno
  rw [hb] at g0
  obtain rfl := Option.some.inj g0
  exact ⟨.agg cs.toArray, fun w' hw' => by simp [execOp, ho, Instr.loadAt, hv, Instr.sureAddr, run_loadVar_agg ha hs ((hw' _ (.inr ⟨r, hrs, by simp [Gh.all, hb]⟩)).trans g1) g2 g4], .agg g3⟩
theorem VOR_fieldAddr_pt {t : TypeId} {x : Operand} {i r j q off s : Nat} {g : Bool} (ho : o.op = .fieldAddr t x i) (hx : okO x = true) (he : ev S x = .pt r j q)
    (hf : fieldT P t i = some (off, s, g)) (hs : s ≠ 0) : VOR P o S rs (.pt r j (q + off)) := by
  refine fun E G gs a w hi => ?_
  have h1 := ev_rel hi x hx
  rw [he] at h1
  obtain ⟨row, b, hr, hb, hv⟩ := pt_inv h1
  unfold fieldT at hf
  split at hf <;> try simp at hf
  rename_i fs hu
  split at hf <;> try simp at hf
  rename_i f hfi
  split at hf <;> try simp at hf
  rename_i s' g' hsz hag
  obtain ⟨rfl, rfl, rfl⟩ := hf
  refine ⟨.pointer (some ⟨b, j * row.n + (q + f.offset), none⟩), ?_, .pt hr hb rfl⟩
  intro w' hw'
  simp [execOp, ho, Instr.fieldAt, run_underlying hu, hfi, hv, Instr.sureAddr, fieldPlace, run_sizeOf hsz, hs, add_none, Nat.add_assoc]
theorem VOR_fieldAddr_rp {t : TypeId} {x : Operand} {xs : List A} {i off s : Nat} {g : Bool} (ho : o.op = .fieldAddr t x i) (hx : okO x = true) (he : ev S x = .rp xs)
    (hf : fieldT P t i = some (off, s, g)) (hs : s ≠ 0) : VOR P o S rs (.rp (xs.drop off)) := by
  refine fun E G gs a w hi => ?_
  have h1 := ev_rel hi x hx
  rw [he] at h1
  obtain ⟨b, k, cur, e, fr, hv, hh, hg, hl⟩ := rp_inv h1
  unfold fieldT at hf
  split at hf <;> try simp at hf
  rename_i fs hu
  split at hf <;> try simp at hf
  rename_i f hfi
  split at hf <;> try simp at hf
  rename_i s' g' hsz hag
  obtain ⟨rfl, rfl, rfl⟩ := hf
  refine ⟨.pointer (some ⟨b, k + f.offset, none⟩), ?_, .of (.rp hh hg rfl ?_)⟩
  · intro w' hw'
    simp [execOp, ho, Instr.fieldAt, run_underlying hu, hfi, hv, Instr.sureAddr, fieldPlace, run_sizeOf hsz, hs, add_none]
  · have := hl.drop0 f.offset
    rw [List.drop_take, List.drop_drop] at this
    simpa using this
theorem VOR_indexAddr_vw {t e : TypeId} {x y : Operand} {r off len : Nat} {k : IntKind} {i : Int} {row : Row} (ho : o.op = .indexAddr t x y) (hx : okO x = true) (hy : okO y = true)
    (h1 : ev S x = .vw r off len) (h2 : ev S y = .sc (.int k i)) (hr : rowAt S.rows r = some row) (he : elemT P t = some e) (hs : szT P e = some row.n) (h0 : 0 ≤ i) (hl : i < len)
    : VOR P o S rs (.pt r (off + i.toNat) 0) := by
  refine fun E G gs a w hi => ?_
  have e1 := ev_rel hi x hx
  have e2 := ev_rel hi y hy
  rw [h1] at e1
  rw [h2] at e2
  obtain ⟨row', kk, cap, cur, et, b, hr', hob, g1, g2, g3, g4, g5, g6, hv⟩ := (vw_inv e1).resolve_right (by
    intro ⟨_, _, _, _, _, h0, _⟩
    omega)
  rw [hr] at hr'
  obtain rfl := Option.some.inj hr'
  have hv2 := (sc_inv e2).1
  have hk : kk = off * row.n := by rcases g6 with h | h <;> omega
  subst hk
  refine ⟨_, ?_, .pt hr hob rfl⟩
  intro w' hw'
  simp [execOp, ho, hv, hv2, Instr.indexAt, asIntOf, run_underlying (elemT_inv he), h0, hl, run_sizeOf hs, add_none, Nat.add_mul]
theorem VOR_indexAddr_sl {t e : TypeId} {x y : Operand} {n : Nat} {xs : List A} {k : IntKind} {i : Int} {z : A} (ho : o.op = .indexAddr t x y) (hx : okO x = true) (hy : okO y = true)
    (h1 : ev S x = .sl false n xs) (h2 : ev S y = .sc (.int k i)) (he : elemT P t = some e) (hs : szT P e = some n) (h0 : 0 ≤ i) (hz : xs[i.toNat]? = some z)
    : VOR P o S rs (.rp z.cells) := by
  refine fun E G gs a w hi => ?_
  have e1 := ev_rel hi x hx
  have e2 := ev_rel hi y hy
  rw [h1] at e1
  rw [h2] at e2
  have hv2 := (sc_inv e2).1
  have hl : i.toNat < xs.length := by
    rcases Nat.lt_or_ge i.toNat xs.length with h | h
    · exact h
    · rw [List.getElem?_eq_none h] at hz; simp at hz
  rcases slf_inv e1 with ⟨_, rfl⟩ | ⟨b, kk, cap, cur, et, fr, hv, hh, hg, hw, hrel, hcap, hm⟩
  · simp at hl
  · refine ⟨.pointer (some ⟨b, kk + i.toNat * n, none⟩), ?_, .of (.rp hh hg rfl ?_)⟩
    · have : i < (xs.length : Int) := by omega
      intro w' hw'
      simp [execOp, ho, hv, hv2, Instr.indexAt, asIntOf, run_underlying (elemT_inv he), h0, this, run_sizeOf hs, add_none]
    · have h3 := (hrel.drop0 (i.toNat * n)).take0 n
      have hseg := flat_seg hw hz 0 n (by omega)
      simp only [Nat.add_zero, List.drop_zero] at hseg
      have hzw := hw z (List.mem_of_getElem? hz)
      unfold A.width at hzw
      rw [hseg, ← hzw, List.take_length, hzw] at h3
      have hle : (i.toNat + 1) * n ≤ xs.length * n := Nat.mul_le_mul_right _ hl
      rw [Nat.add_mul] at hle
      rw [List.drop_take, List.take_take, Nat.min_eq_left (by omega), List.drop_drop] at h3
      rw [hzw]
      exact h3
theorem VOR_nilCheck_pt {x : Operand} {r j q : Nat} (ho : o.op = .nilCheck x) (hx : okO x = true) (he : ev S x = .pt r j q)
    : VOR P o S rs (.pt r j q) := by
  refine fun E G gs a w hi => ?_
  have h1 := ev_rel hi x hx
  rw [he] at h1
  obtain ⟨row, b, hr, hb, hv⟩ := pt_inv h1
  exact ⟨_, fun w' hw' => by simp [execOp, ho, hv], hv ▸ h1⟩
theorem VOR_nilCheck_rp {x : Operand} {xs : List A} (ho : o.op = .nilCheck x) (hx : okO x = true) (he : ev S x = .rp xs)
    : VOR P o S rs (.rp xs) := by
  refine fun E G gs a w hi => ?_
  have h1 := ev_rel hi x hx
  rw [he] at h1
  obtain ⟨b, k, cur, e, fr, hv, hh, hg, hl⟩ := rp_inv h1
  exact ⟨_, fun w' hw' => by simp [execOp, ho, hv], hv ▸ h1⟩
theorem vFieldAddrR_ok {k : A → Prop} (hT : TabOK P T) {t : TypeId} {x : Operand} {i : Nat} (ho : o.op = .fieldAddr t x i) (h : vFieldAddr T t i (ev S x) k) : ∃ z, VOR P o S rs z ∧ k z := by
  unfold vFieldAddr at h
  split at h <;> try exact h.elim
  rename_i ti hi
  have hti := tiOf_ok (hT _ _ hi)
  split at h <;> try exact h.elim
  rename_i off s g hf
  split at h <;> try exact h.elim
  rename_i hs
  split at h <;> try exact h.elim
  · rename_i r j q hx
    exact ⟨_, VOR_fieldAddr_pt ho rfl hx (hti.fs _ _ hf) hs, h⟩
  · rename_i xs hx
    exact ⟨_, VOR_fieldAddr_rp ho rfl hx (hti.fs _ _ hf) hs, h⟩
theorem VOR_indexAddr_pa {t : TypeId} {x y : Operand} {r j q n s : Nat} {k : IntKind} {i : Int} (ho : o.op = .indexAddr t x y) (hx : okO x = true) (hy : okO y = true)
    (h1 : ev S x = .pt r j q) (h2 : ev S y = .sc (.int k i)) (ha : arT P t = some (n, s)) (h0 : 0 ≤ i) (hl : i < n) : VOR P o S rs (.pt r j (q + i.toNat * s)) := by
  refine fun E G gs a w hi => ?_
  have e1 := ev_rel hi x hx
  have e2 := ev_rel hi y hy
  rw [h1] at e1
  rw [h2] at e2
  obtain ⟨row, b, hr, hb, hv⟩ := pt_inv e1
  have hv2 := (sc_inv e2).1
  unfold arT at ha
  split at ha
  case h_2 => cases ha
  rename_i n' e hu
  obtain ⟨s', hs, hns⟩ := Option.map_eq_some_iff.1 ha
  obtain ⟨rfl, rfl⟩ := Prod.mk.inj hns
  refine ⟨.pointer (some ⟨b, j * row.n + (q + i.toNat * s'), none⟩), ?_, .pt hr hb rfl⟩
  intro w' hw'
  simp [execOp, ho, hv, hv2, Instr.indexAt, asIntOf, run_underlying hu, Instr.sureAddr, h0, hl, run_sizeOf hs, add_none, Nat.add_assoc]
theorem vIndexAddrR_ok {k : A → Prop} (hT : TabOK P T) {t : TypeId} {x y : Operand} (ho : o.op = .indexAddr t x y) (h : vIndexAddr std T t S (ev S x) (ev S y) k) : ∃ z, VOR P o S rs z ∧ k z := by
  unfold vIndexAddr at h
  split at h <;> try exact h.elim
  · rename_i e ti k i hs hy
    obtain ⟨he, hti⟩ := szEl_ok hT hs
    split at h <;> try exact h.elim
    · rename_i r off len hx
      split at h <;> try exact h.elim
      rename_i row hr
      split at h <;> try exact h.elim
      rename_i hn
      exact ⟨_, VOR_indexAddr_vw ho rfl rfl hx hy hr he (by rw [hti.sz, hn]) h.1.h.1 h.1.h.2, h.2⟩
    · rename_i n xs hx
      split at h <;> try exact h.elim
      rename_i hn
      obtain ⟨h1, z, hz, h⟩ := h
      exact ⟨_, VOR_indexAddr_sl ho rfl rfl hx hy he (by rw [hti.sz, hn]) h1.h hz, h⟩
  · rename_i k i hs hy
    split at h <;> try exact h.elim
    rename_i ti ht
    split at h <;> try exact h.elim
    rename_i n s ha
    split at h <;> try exact h.elim
    rename_i r j q hx
    exact ⟨_, VOR_indexAddr_pa ho rfl rfl hx hy (by rw [(tiOf_ok (hT _ _ ht)).ar]; exact ha) h.1.h.1 h.1.h.2, h.2⟩
theorem vNilCheckR_ok {k : A → Prop} {x : Operand} (ho : o.op = .nilCheck x) (h : vNilCheck (ev S x) k) : ∃ z, VOR P o S rs z ∧ k z := by
  unfold vNilCheck at h
  split at h <;> try exact h.elim
  · rename_i hx; exact ⟨_, VOR_nilCheck_pt ho rfl hx, h⟩
  · rename_i hx; exact ⟨_, VOR_nilCheck_rp ho rfl hx, h⟩
def vLoadR (T : Nat → Option TI) (t : TypeId) (S : State) (rs : List Nat) (x : A) (k : A → Prop) : Prop :=
  match T t with
  | some i => (match x with
    | .rp xs => if i.ag then (if i.sz ≤ xs.length then k (.agg (xs.take i.sz)) else False) else (match xs[0]? with
      | some z => k z
      | none => False)
    | .pt r j q => if rs.contains r then (match rowAt S.rows r with
      | some row => (match row.lk with
        | true => (match row.xs[j]? with
          | some y => vCell i row.n y q k
          | none => False)
        | false => ∃ y, row.xs[j]? = some y ∧ vCell i row.n y q k)
      | none => False) else False
    | _ => False)
  | none => False
theorem vLoadR_ok {k : A → Prop} (hT : TabOK P T) {t : TypeId} {x : Operand} (ho : o.op = .load t x) (h : vLoadR T t S rs (ev S x) k) : ∃ z, VOR P o S rs z ∧ k z := by
  unfold vLoadR at h
  split at h <;> try exact h.elim
  rename_i i hi
  have hti := tiOf_ok (hT _ _ hi)
  split at h <;> try exact h.elim
  · rename_i xs hx
    split at h
    · rename_i hag
      split at h <;> try exact h.elim
      rename_i hle
      exact ⟨_, (VOG_load_rpAgg ho rfl hx (by rw [hti.ag, hag]) hti.sz hle).r, h⟩
    · rename_i hag
      split at h <;> try exact h.elim
      rename_i z hz
      exact ⟨_, (VOG_load_rp ho rfl hx (by rw [hti.ag]; simpa using hag) hz).r, h⟩
  · rename_i r j q hx
    split at h <;> try exact h.elim
    rename_i hrs
    have hrs : r ∈ rs := by simpa using hrs
    split at h <;> try exact h.elim
    rename_i row hr
    have cell : ∀ y, row.xs[j]? = some y → vCell i row.n y q k → ∃ z, VOR P o S rs z ∧ k z := fun y hy h => by
      unfold vCell at h
      split at h
      · rename_i hag
        split at h <;> try exact h.elim
        rename_i hq
        split at h <;> try exact h.elim
        rename_i hno
        exact ⟨_, VOR_load_ptAgg ho rfl hx hr hrs hy (by rw [hti.ag, hag]) hti.sz hq hno, h⟩
      · rename_i hag
        split at h <;> try exact h.elim
        rename_i z hz
        split at h <;> try exact h.elim
        rename_i hno
        exact ⟨_, VOR_load_pt ho rfl hx hr hrs hy (by rw [hti.ag]; simpa using hag) hz hno, h⟩
    split at h
    · split at h <;> try exact h.elim
      rename_i y hy
      exact cell y hy h
    · obtain ⟨y, hy, h⟩ := h
      exact cell y hy h
/-- What an operation reads of rows rs, or of what nobody writes. -/
def vROp (Ω : Opq) (T : Nat → Option TI) (rs : List Nat) (o : Oper) (S : State) (k : A → Prop) : Prop :=
  match o.op with
  | .load t x => vLoadR T t S rs (ev S x) k
  | .fieldAddr t x i => vFieldAddr T t i (ev S x) k
  | .nilCheck x => vNilCheck (ev S x) k
  | .indexAddr t x y => vIndexAddr Ω T t S (ev S x) (ev S y) k
  | _ => vGOp Ω T o S k
theorem vROp_ok (hT : TabOK P T) {k : A → Prop} (h : vROp std T rs o S k) : ∃ z, VOR P o S rs z ∧ k z := by
  unfold vROp at h
  split at h
  · rename_i ho; exact vLoadR_ok hT ho h
  · rename_i ho; exact vFieldAddrR_ok hT ho h
  · rename_i ho; exact vNilCheckR_ok ho h
  · rename_i ho; exact vIndexAddrR_ok hT ho h
  · obtain ⟨z, h1, h2⟩ := vGOp_ok hT h
    exact ⟨z, h1.r, h2⟩
def vRs (Ω : Opq) (T : Nat → Option TI) (rs : List Nat) (ops : List Oper) : List Nat → State → (State → Prop) → Prop
  | [], S, K => K S
  | q :: qs, S, K => match ops[q]? with
    | some o => (match o.guard with
      | none => vROp Ω T rs o S fun z => vRs Ω T rs ops qs (S.put o.dst z) K
      | some _ => False)
    | none => False
def listAll : List Nat → Array Bool → Array Bool
  | [], l => l
  | n :: ns, l => listAll ns (l.setIfInBounds n true)
def quietB (ops : Array Oper) (kp : Nat → Bool) : List Nat → Array Bool → Bool
  | [], _ => true
  | q :: qs, l => (Region.ready .any ops l).contains q && (kfree .any ops kp l q && (quietB ops kp qs (l.setIfInBounds q true)))
variable {ops : List Oper} {Q : Exit → Act → World → Prop} {kp : Nat → Bool} {Sc : World → Prop}
theorem put_rows (S : State) (d : Option Nat) (z : A) : (S.put d z).rows = S.rows := by
  cases d with
  | none => rfl
  | some d => simp only [State.put]; split <;> rfl
theorem quiet_ok (hT : TabOK P T) {E : Env P} {G : Nat → Prop} {gs : Gh} {w : World} {m : Nat} {rs : List Nat} (hQ : ∀ c a w, ¬ Q (.panic c) a w) (hsel : Region.noSelect ops.toArray = true) {K : State → Prop} : ∀ (qs : List Nat) (l : Array Bool) (S : State) (a : Act), quietB ops.toArray kp qs l = true →
    vRs std T rs ops qs S K → a.defers = [] → Inv E G gs S a.tmps w → (∀ S' a', K S' → S'.rows = S.rows → a'.defers = [] → Inv E G gs S' a'.tmps w → anyK P .any ops.toArray Q kp (AgreeR G gs rs w) m (listAll qs l) a' w) →
    anyK P .any ops.toArray Q kp (AgreeR G gs rs w) (qs.length + m) l a w
  | [], l, S, a, hB, h, hd, hi, hK => by rw [List.length_nil, Nat.zero_add]; exact hK S a h rfl hd hi
  | q :: qs, l, S, a, hB, h, hd, hi, hK => by
    simp only [quietB, Bool.and_eq_true] at hB
    unfold vRs at h
    split at h <;> try exact h.elim
    rename_i o ho
    split at h <;> try exact h.elim
    rename_i hg
    obtain ⟨z, h1, h2⟩ := vROp_ok hT h
    obtain ⟨v, h3, h4⟩ := h1 E G gs a w hi
    rw [List.length_cons, show qs.length + 1 + m = (qs.length + m) + 1 by omega]
    refine anyK_take (oi := o) (v := v) (by simpa using ho) hsel hB.2.1 hB.1 (fun c a w h => (hQ _ _ _ h).elim) (.inl ⟨by simp [Region.wanted, hg], fun w' hw' => h3 w' hw'⟩) (fun _ _ => rfl) ?_
    exact quiet_ok hT hQ hsel qs _ _ _ hB.2.2 h2 (by rw [put_defers]; exact hd) (hi.put h4 o.dst) (fun S' a' h1 h2 => hK S' a' h1 (h2.trans (put_rows _ _ _)))
/-- What must be seen of a state whose rows rs are lent, the temporaries hs being kept. -/
def lendB (S : State) (rs hs : List Nat) : Bool :=
  decide rs.Nodup && (rs.all (fun r => match rowAt S.rows r with
    | some row => rowOnly rs row
    | none => false) && hs.all fun i => oneA' (lk S.t i) && onlyR rs (lk S.t i))
def keptA (S2 : State) (vs : Nat → Value) : List Nat → Prop
  | [] => True
  | i :: hs => lk S2.t i = .sc (vs i) ∧ keptA S2 vs hs
def backB (S2 : State) (rs : List Nat) : Bool := rs.all fun r => (match rowAt S2.rows r with
  | none => true
  | some _ => false) && decide (r < S2.rows.length)
theorem keptA_spec {S2 : State} {vs : Nat → Value} : ∀ {hs : List Nat}, keptA S2 vs hs → ∀ i ∈ hs, lk S2.t i = .sc (vs i)
  | [], _, i, hi => by cases hi
  | j :: hs, h, i, hi => by
    rcases List.mem_cons.1 hi with rfl | hi
    · exact h.1
    · exact keptA_spec h.2 i hi
end
end Go.Fw

/- Calls that write into one box of plain data and hand back something of which a relation speaks. Plain theorems, no condition. -/
set_option linter.unusedVariables false
set_option linter.unusedSimpArgs false
namespace Go.Fw
section
variable {P : Program} {T : Nat → Option TI} {S : State} {Ω : Opq}
/-- Rows from n on are not asked for any more. -/
def cutT (n : Nat) (t : List (Nat × A)) : List (Nat × A) := t.map fun p => (p.1, if onlyR (List.range n) p.2 then p.2 else .un)
theorem lk_cutT (n : Nat) : ∀ (t : List (Nat × A)) (i : Nat), lk (cutT n t) i = if onlyR (List.range n) (lk t i) then lk t i else .un
  | [], i => by simp [cutT, lk, onlyR]
  | (k, x) :: l, i => by
    have ih := lk_cutT n l i
    simp only [cutT] at ih
    simp only [cutT, List.map_cons, lk]
    split
    · rfl
    · exact ih
def rowsOnly (n : Nat) : List (Option Row) → Bool
  | [] => true
  | none :: l => rowsOnly n l
  | some row :: l => rowOnly (List.range n) row && rowsOnly n l
theorem rowsOnly_at {n : Nat} : ∀ {l : List (Option Row)} {r : Nat} {row : Row}, rowsOnly n l = true → rowAt l r = some row → rowOnly (List.range n) row = true
  | [], r, row, _, h => by simp [rowAt] at h
  | none :: l, 0, row, _, h => by simp [rowAt] at h
  | some row' :: l, 0, row, h1, h => by
    simp [rowAt] at h
    subst h
    simp only [rowsOnly, Bool.and_eq_true] at h1
    exact h1.1
  | none :: l, r + 1, row, h1, h => rowsOnly_at (l := l) (r := r) h1 (by simpa [rowAt] using h)
  | some row' :: l, r + 1, row, h1, h => by
    simp only [rowsOnly, Bool.and_eq_true] at h1
    exact rowsOnly_at (l := l) (r := r) h1.2 (by simpa [rowAt] using h)
theorem rowAt_take {l : List (Option Row)} {n r : Nat} : rowAt (l.take n) r = if r < n then rowAt l r else none := by
  unfold rowAt
  rw [List.getElem?_take]
  split <;> rfl
theorem Sbs.cut (n : Nat) (h : rowsOnly n (S.rows.take n) = true) : Sbs S ⟨cutT n S.t, S.N, S.rows.take n⟩ := by
  intro P E a w ⟨hd, G, gs, hi⟩
  have hrat : ∀ r row, rowAt (S.rows.take n) r = some row → rowAt S.rows r = some row := fun r row hr => by
    rw [rowAt_take] at hr
    split at hr
    · exact hr
    · cases hr
  have hle : ∀ r ∈ List.range n, RowLe w w S.rows (S.rows.take n) gs gs r := fun r hr => RowLe.refl_of fun row hrw => by
    rw [List.mem_range] at hr
    exact ⟨by rw [rowAt_take, if_pos hr]; exact hrw, rfl, fun _ _ => rfl⟩
  refine ⟨hd, G, gs, hi.keep, hi.os, hi.tape, hi.output, hi.size, hi.sz, hi.gsub, hi.gnew, hi.glt, fun r row hr => ?_, fun r row hr => hi.nod r row (hrat r row hr), fun r row hr => hi.own r row (hrat r row hr),
    fun r r' row row' hr hr' => hi.dis r r' row row' (hrat r row hr) (hrat r' row' hr'), fun i => ?_⟩
  · exact (hi.row r row (hrat r row hr)).on (fun b hb => ⟨hb, rfl⟩) hle (rowsOnly_at h hr) fun _ _ => rfl
  · show TRel w G (S.rows.take n) gs (lk (cutT n S.t) i) _ []
    rw [lk_cutT]
    split
    · rename_i ho
      exact (hi.tmp i).on (fun b hb => ⟨hb, rfl⟩) hle ho (by simp)
    · exact .un
/-! An own row of data, from now on only read. -/
mutual
def thaw (r n : Nat) (xs : List A) : A → A
  | .vw r' off len => if r' = r then .sl false n ((xs.drop off).take len) else .vw r' off len
  | .pt r' j o => if r' = r then .rp ((flat xs).drop (j * n + o)) else .pt r' j o
  | .agg ys => .agg (thawL r n xs ys)
  | .tup ys => .tup (thawL r n xs ys)
  | .clo g ys => .clo g (thawL r n xs ys)
  | .un => .un
  | .sc v => .sc v
  | .nil => .nil
  | .sl o m ys => .sl o m ys
  | .rp ys => .rp ys
  | .bx ys => .bx ys
def thawL (r n : Nat) (xs : List A) : List A → List A
  | [] => []
  | y :: ys => thaw r n xs y :: thawL r n xs ys
end
theorem thawL_eq (r n : Nat) (xs : List A) : ∀ ys : List A, thawL r n xs ys = ys.map (thaw r n xs)
  | [] => rfl
  | y :: ys => by rw [thawL, thawL_eq r n xs ys]; rfl
theorem thaw_agg (r n : Nat) (xs ys : List A) : thaw r n xs (.agg ys) = .agg (ys.map (thaw r n xs)) := by rw [thaw, thawL_eq]
theorem thaw_tup (r n : Nat) (xs ys : List A) : thaw r n xs (.tup ys) = .tup (ys.map (thaw r n xs)) := by rw [thaw, thawL_eq]
theorem thaw_clo (r n g : Nat) (xs ys : List A) : thaw r n xs (.clo g ys) = .clo g (ys.map (thaw r n xs)) := by rw [thaw, thawL_eq]
theorem Rel.thaw {w : World} {G : Nat → Prop} {x : A} {v : Value} {F : List Nat} (h : Rel w G x v F) (r n : Nat) (xs : List A) : Fw.thaw r n xs x = x := by
  refine Rel.rec (motive_1 := fun x v F _ => Fw.thaw r n xs x = x) (motive_2 := fun ys vs F _ => ys.map (Fw.thaw r n xs) = ys)
    ?_ ?_ ?_ ?_ ?_ ?_ ?_ ?_ ?_ ?_ ?_ ?_ ?_ ?_ h
  · intros; rw [Fw.thaw]
  · intros; rw [Fw.thaw]
  · intros; rw [Fw.thaw]
  · intros; rw [Fw.thaw]
  · intros; rw [Fw.thaw]
  · intros; rw [Fw.thaw]
  · intros; rw [Fw.thaw]
  · intro xs cs F hl ih; rw [thaw_agg, ih]
  · intro xs cs F hl ih; rw [thaw_tup, ih]
  · intros; rw [Fw.thaw]
  · intros; rw [Fw.thaw]
  · intro g caps cs F hl ih; rw [thaw_clo, ih]
  · rfl
  · intro x v F xs vs Fs h hl ih ih'; rw [List.map_cons, ih, ih']
/-- What is known of a row whose blocks are G's from now on. -/
structure Thawed (w : World) (G G' : Nat → Prop) (rows rows' : List (Option Row)) (gs gs' : Gh) (r : Nat) (row : Row) (ys : List A) : Prop where
  sub : ∀ b, G b → G' b
  ro : ∀ b, (gs r).1 = some b → G' b
  ob : RowRel w G' rows gs { row with xs := ys } (gs r).1 []
  len : ys.length = row.xs.length
  lk : row.lk = false
  at_ : rowAt rows r = some row
  other : ∀ q row', q ≠ r → rowAt rows q = some row' → rowAt rows' q = some row' ∨ ∃ row2, rowAt rows' q = some row2 ∧ row2.n = row'.n ∧ row2.xs.length = row'.xs.length
  gsq : ∀ q, q ≠ r → gs' q = gs q
theorem TRel.thaw {w : World} {G G' : Nat → Prop} {rows rows' : List (Option Row)} {gs gs' : Gh} {r : Nat} {row : Row} {ys : List A} (ht : Thawed w G G' rows rows' gs gs' r row ys) {x : A} {v : Value} {F : List Nat} (h : TRel w G rows gs x v F) :
    TRel w G' rows' gs' (Fw.thaw r row.n ys x) v F := by
  refine TRel.rec (motive_1 := fun x v F _ => TRel w G' rows' gs' (Fw.thaw r row.n ys x) v F) (motive_2 := fun xs vs F _ => TRelL w G' rows' gs' (xs.map (Fw.thaw r row.n ys)) vs F) ?_ ?_ ?_ ?_ ?_ ?_ ?_ ?_ ?_ ?_ h
  · intros; rw [Fw.thaw]; exact .un
  · intro x v F h; rw [h.thaw]; exact .of (h.move_ (fun b hb => ⟨ht.sub b hb, rfl⟩) fun _ _ => rfl)
  · intro q off len k cap c row' cur e h1 h2 h3 h4 h5 h6 h7 h8
    rw [Fw.thaw]
    split
    · rename_i hq
      subst hq
      rw [ht.at_] at h1
      obtain rfl := Option.some.inj h1
      have hob := ht.ob
      rw [h2] at hob
      obtain ⟨cur', e', cap', g1, g2, g3, g4, g5, g6, g7⟩ := RowCells.ex hob
      rw [h4] at g1
      obtain ⟨rfl, -, -⟩ : cur = cur' ∧ e = e' ∧ True := by simpa using g1
      unfold CellsRel at g7
      dsimp only at g3 g5 g6 g7
      rw [if_neg (by rw [ht.lk]; simp)] at g7
      have hwd : ∀ x ∈ ys, x.width = row.n := g5
      have hlen : ys.length = row.xs.length := ht.len
      have hl2 : (ys.drop off).take len = (ys.take (off + len)).drop off := by rw [List.drop_take]; congr 1; omega
      have h9 := (g7.take0 ((off + len) * row.n)).drop0 (off * row.n)
      rw [flat_take (off + len) hwd, flat_drop off (fun x hx => hwd x (List.mem_of_mem_take hx)), ← hl2] at h9
      have e9 : List.drop (off * row.n) (List.take ((off + len) * row.n) (List.take (ys.length * row.n) cur.toList)) = (cur.toList.drop (off * row.n)).take (len * row.n) := by
        have hle : (off + len) * row.n ≤ ys.length * row.n := Nat.mul_le_mul_right _ (by rw [hlen]; exact h3)
        rw [List.take_take, Nat.min_eq_left hle, List.drop_take, Nat.add_mul, Nat.add_sub_cancel_left]
      rw [e9] at h9
      have hll : len = ((ys.drop off).take len).length := by simp; omega
      refine .of (.ro h4 (ht.ro c h2) (fun x hx => hwd x (List.mem_of_mem_drop (List.mem_of_mem_take hx))) hll rfl ?_ (by omega) (by omega))
      rcases h8 with rfl | ⟨h8, _⟩
      · exact h9
      · have h0 : len = 0 := by omega
        subst h0
        simpa [flat] using RelL.nil
    · rename_i hq
      rcases ht.other q row' hq h1 with h9 | ⟨row2, h9, h10, h11⟩
      · exact .vw h9 (by rw [ht.gsq q hq]; exact h2) h3 h4 h5 h6 h7 h8
      · exact .vw h9 (by rw [ht.gsq q hq]; exact h2) (by omega) h4 (by rw [h10]; exact h5) h6 (by omega) (by rw [h10]; exact h8)
  · intro q row' h1 h2 h3
    rw [Fw.thaw]
    split
    · simpa using TRel.of Rel.nils
    · rename_i hq
      rcases ht.other q row' hq h1 with h9 | ⟨row2, h9, h10, h11⟩
      · exact .vwn h9 (by rw [ht.gsq q hq]; exact h2) h3
      · exact .vwn h9 (by rw [ht.gsq q hq]; exact h2) (List.eq_nil_of_length_eq_zero (by rw [h11, h3]; rfl))
  · intro q j o k c row' h1 h2 h3
    rw [Fw.thaw]
    split
    · rename_i hq
      subst hq
      rw [ht.at_] at h1
      obtain rfl := Option.some.inj h1
      have hob := ht.ob
      rw [h2] at hob
      obtain ⟨cur', e', cap', g1, g2, g3, g4, g5, g6, g7⟩ := RowCells.ex hob
      unfold CellsRel at g7
      dsimp only at g3 g5 g6 g7
      rw [if_neg (by rw [ht.lk]; simp)] at g7
      have h9 := g7.drop0 (j * row.n + o)
      have hfl := flat_length (n := row.n) (xs := ys) g5
      subst h3
      refine .of (.rp g1 (ht.ro c h2) rfl ?_)
      rw [List.length_drop, hfl, ← List.drop_take]
      exact h9
    · rename_i hq
      rcases ht.other q row' hq h1 with h9 | ⟨row2, h9, h10, h11⟩
      · exact .pt h9 (by rw [ht.gsq q hq]; exact h2) h3
      · exact .pt h9 (by rw [ht.gsq q hq]; exact h2) (by rw [h10]; exact h3)
  · intro xs cs F hl ih; rw [thaw_agg]; exact .agg ih
  · intro xs cs F hl ih; rw [thaw_tup]; exact .tup ih
  · intro g caps cs F hl ih; rw [thaw_clo]; exact .clo ih
  · exact .nil
  · intro x v F xs vs Fs h hl ih ih'; exact .cons ih ih'
def thawRow (r n : Nat) (xs : List A) (row : Row) : Row := if row.lk then { row with xs := row.xs.map (thaw r n xs) } else row
def thawT (r n : Nat) (xs : List A) (t : List (Nat × A)) : List (Nat × A) := t.map fun p => (p.1, thaw r n xs p.2)
theorem lk_thawT (r n : Nat) (xs : List A) : ∀ (t : List (Nat × A)) (i : Nat), lk (thawT r n xs t) i = thaw r n xs (lk t i)
  | [], i => by show A.un = thaw r n xs .un; rw [thaw]
  | (k, x) :: l, i => by
    have ih := lk_thawT r n xs l i
    simp only [thawT] at ih
    simp only [thawT, List.map_cons, lk]
    split
    · rfl
    · exact ih
theorem thaw_cells (r n : Nat) (xs : List A) (x : A) : (thaw r n xs x).cells = x.cells.map (thaw r n xs) := by
  have e1 : ∀ q o l, (if q = r then A.sl false n ((xs.drop o).take l) else A.vw q o l).cells = [if q = r then A.sl false n ((xs.drop o).take l) else A.vw q o l] := fun q o l => by split <;> rfl
  have e2 : ∀ q o l, (if q = r then A.rp ((flat xs).drop (o * n + l)) else A.pt q o l).cells = [if q = r then A.rp ((flat xs).drop (o * n + l)) else A.pt q o l] := fun q o l => by split <;> rfl
  cases x with
  | vw q o l => simp only [A.cells, List.map_cons, List.map_nil, thaw, e1]; exact e1 q o l
  | pt q o l => simp only [A.cells, List.map_cons, List.map_nil, thaw, e2]; exact e2 q o l
  | _ => simp only [thaw, thawL_eq, A.cells, List.map_cons, List.map_nil]
theorem thaw_width (r n : Nat) (xs : List A) (x : A) : (thaw r n xs x).width = x.width := by simp [A.width, thaw_cells]
theorem thaw_flat (r n : Nat) (xs ys : List A) : flat (ys.map (thaw r n xs)) = (flat ys).map (thaw r n xs) := by
  induction ys with
  | nil => rfl
  | cons x ys ih => simp only [flat, List.map_cons, List.flatMap_cons, List.map_append] at *; rw [ih, thaw_cells]
def State.thaw (S : State) (r n : Nat) (ys : List A) : State := ⟨thawT r n ys S.t, S.N, (S.rows.map (Option.map (thawRow r n ys))).set r none⟩
/-- An own row of data is only read from now on: what led into it tells what it holds. -/
theorem Sbs.thawY {r : Nat} {row : Row} {ys : List A} (hr : rowAt S.rows r = some row) (hlk : row.lk = false) (hyl : ys.length = row.xs.length)
    (hys : (∀ x ∈ row.xs, x.width = row.n) → (∀ x ∈ ys, x.width = row.n))
    (hre : ∀ (w : World) (G G' : Nat → Prop) (vs : List Value) (F : List Nat), RelL w G (flat row.xs) vs F → (∀ b, G b → G' b) → (∀ b ∈ F, G' b) → RelL w G' (flat ys) vs []) : Sbs S (S.thaw r row.n ys) := by
  intro P E ac w ⟨hd, G, gs, hi⟩
  have hal := rowAt_lt hr
  have hrat : ∀ q, rowAt (S.thaw r row.n ys).rows q = if q = r then none else (rowAt S.rows q).map (thawRow r row.n ys) := fun q => by
    show rowAt ((S.rows.map (Option.map (thawRow r row.n ys))).set r none) q = _
    rw [rowAt_set _ _ _ _ (by simpa using hal)]
    split
    · rfl
    · simp only [rowAt, List.getElem?_map]
      cases h : S.rows[q]? with
      | none => rfl
      | some o => cases o <;> rfl
  have hGsub : ∀ b, G b → G b ∨ b ∈ gs.all r := fun b h => .inl h
  have hob : RowRel w (fun b => G b ∨ b ∈ gs.all r) S.rows gs { row with xs := ys } (gs r).1 [] := by
    have h := hi.row r row hr
    have hin2 : ∀ b ∈ (gs r).2, b ∈ gs.all r := fun b hb => by simp [Gh.all, hb]
    generalize (gs r).1 = ob at h
    generalize (gs r).2 = F at h hin2
    cases ob with
    | none => exact ⟨List.eq_nil_of_length_eq_zero (by rw [hyl, h.1]; rfl), rfl⟩
    | some b =>
      obtain ⟨cur, e, cap, h1, h2, h3, h4, h5, h6, h7⟩ := RowCells.ex h
      refine ⟨cur, e, cap, h1, h2, by dsimp only; rw [hyl]; exact h3, h4, hys h5, by dsimp only; rw [hyl]; exact h6, ?_⟩
      · unfold CellsRel at h7 ⊢
        dsimp only
        rw [if_neg (by rw [hlk]; simp)] at h7 ⊢
        rw [hyl]
        exact hre w G (fun b => G b ∨ b ∈ gs.all r) _ _ h7 hGsub (fun b hb => .inr (hin2 b hb))
  have ht : Thawed w G (fun b => G b ∨ b ∈ gs.all r) S.rows (S.thaw r row.n ys).rows gs (gs.add r none []) r row ys := by
    refine ⟨hGsub, fun b hb => .inr (by simp [Gh.all, hb]), hob, hyl, hlk, hr, fun q row' hq hq2 => ?_, fun q hq => by simp [Gh.add, hq]⟩
    rw [hrat, if_neg hq, hq2]
    refine .inr ⟨_, rfl, ?_, ?_⟩ <;> unfold thawRow <;> split <;> simp
  have hgs : ∀ q, q ≠ r → (gs.add r none []) q = gs q := fun q hq => by simp [Gh.add, hq]
  have hall : ∀ q, q ≠ r → (gs.add r none []).all q = gs.all q := fun q hq => by simp only [Gh.all, hgs q hq]
  have hcase : ∀ q row', rowAt (S.thaw r row.n ys).rows q = some row' → q ≠ r ∧ ∃ row0, rowAt S.rows q = some row0 ∧ row' = thawRow r row.n ys row0 := fun q row' h => by
    rw [hrat] at h
    split at h
    · cases h
    · rename_i hq
      obtain ⟨row0, q1, q2⟩ := Option.map_eq_some_iff.1 h
      exact ⟨hq, row0, q1, q2.symm⟩
  refine ⟨hd, fun b => G b ∨ b ∈ gs.all r, gs.add r none [], hi.keep, hi.os, hi.tape, hi.output, hi.size, hi.sz, fun b hb => .inl (hi.gsub b hb), fun b hb => ?_, hi.glt.move (fun b h => .inl h) (fun _ _ => rfl) (fun b hb => ?_), fun q row' hq => ?_, fun q row' hq => ?_, fun q row' hq b hb => ?_, fun q q' row' row'' hq hq' hne => ?_, fun i => ?_⟩
  · rcases hb with hb | hb
    · exact hi.gnew b hb
    · exact .inr (hi.own r row hr b hb).2
  · rcases hb with hb | hb
    · exact hi.glt b hb
    · exact hi.block_lt hr b hb
  · obtain ⟨hqr, row0, h0, rfl⟩ := hcase q row' hq
    have hrow := hi.row q row0 h0
    rw [hgs q hqr]
    generalize (gs q).1 = ob at hrow
    cases ob with
    | none =>
      obtain ⟨q1, q2⟩ := hrow
      refine ⟨?_, q2⟩
      unfold thawRow
      split <;> simp [q1]
    | some c =>
      obtain ⟨cur, ee, cap, h1, h2, h3, h4, h5, h6, h7⟩ := RowCells.ex hrow
      unfold CellsRel at h7
      by_cases hl : row0.lk = true
      · have e1 : thawRow r row.n ys row0 = { row0 with xs := row0.xs.map (Fw.thaw r row.n ys) } := by unfold thawRow; rw [if_pos hl]
        rw [e1]
        refine ⟨cur, ee, cap, h1, h2, by simpa using h3, h4, ?_, by simpa using h6, ?_⟩
        · intro x hx
          obtain ⟨y, hy, rfl⟩ := List.mem_map.1 hx
          rw [thaw_width]; exact h5 y hy
        · unfold CellsRel
          rw [if_pos hl] at h7
          show if row0.lk = true then _ else _
          rw [if_pos hl, thaw_flat]
          have : ∀ {xs : List A} {vs : List Value} {F : List Nat}, TRelL w G S.rows gs xs vs F → TRelL w (fun b => G b ∨ b ∈ gs.all r) (S.thaw r row.n ys).rows (gs.add r none []) (xs.map (Fw.thaw r row.n ys)) vs F := by
            intro xs vs F h
            induction xs generalizing vs F with
            | nil => cases h; exact .nil
            | cons x xs ih => cases h with | cons h hl => exact .cons (h.thaw ht) (ih hl)
          simpa using this h7
      · have e1 : thawRow r row.n ys row0 = row0 := by unfold thawRow; rw [if_neg hl]
        rw [e1]
        refine ⟨cur, ee, cap, h1, h2, h3, h4, h5, h6, ?_⟩
        unfold CellsRel
        rw [if_neg hl] at h7 ⊢
        exact h7.move_ (fun b hb => ⟨.inl hb, rfl⟩) fun _ _ => rfl
  · obtain ⟨hqr, row0, h0, rfl⟩ := hcase q row' hq
    rw [hall q hqr]; exact hi.nod q row0 h0
  · obtain ⟨hqr, row0, h0, rfl⟩ := hcase q row' hq
    rw [hall q hqr] at hb
    obtain ⟨q1, q2⟩ := hi.own q row0 h0 b hb
    exact ⟨fun h => h.elim q1 fun h => hi.dis q r row0 row h0 hr hqr b hb h, q2⟩
  · obtain ⟨hqr, row0, h0, rfl⟩ := hcase q row' hq
    obtain ⟨hqr', row1, h1, rfl⟩ := hcase q' row'' hq'
    rw [hall q hqr, hall q' hqr']
    exact hi.dis q q' row0 row1 h0 h1 hne
  · show TRel w _ (S.thaw r row.n ys).rows _ (lk (thawT r row.n ys S.t) i) _ []
    rw [lk_thawT]
    exact (hi.tmp i).thaw ht
/-- The same with what is held alone frozen. -/
theorem Sbs.thaw {r : Nat} {row : Row} (hr : rowAt S.rows r = some row) (hlk : row.lk = false) : Sbs S (S.thaw r row.n (row.xs.map frz)) :=
  Sbs.thawY hr hlk (by simp) (fun h x hx => by obtain ⟨y, hy, rfl⟩ := List.mem_map.1 hx; rw [width_frz]; exact h y hy) fun w G G' vs F h h1 h2 => by rw [flat_frz]; exact RelL.frz h h1 h2
/-- The same where nothing is held alone. -/
theorem Sbs.thaw0 {r : Nat} {row : Row} (hr : rowAt S.rows r = some row) (hlk : row.lk = false) (hno : (flat row.xs).all noOwn = true) : Sbs S (S.thaw r row.n row.xs) :=
  Sbs.thawY hr hlk rfl (fun h => h) fun w G G' vs F h h1 h2 => by
    obtain rfl := h.noOwn hno
    exact RelL.move_ (fun b hb => ⟨h1 b hb, rfl⟩) h (fun _ _ => rfl)
/-- A box of data is told as a row of data. -/
theorem Sbs.unlk {r : Nat} {row : Row} (hr : rowAt S.rows r = some row) (hd : (flat row.xs).all isData = true) : Sbs S (S.setRow r { row with lk := false }) := by
  intro P E ac w ⟨hd', G, gs, hi⟩
  have hal := rowAt_lt hr
  have hrat : ∀ q, rowAt (S.setRow r { row with lk := false }).rows q = if q = r then some { row with lk := false } else rowAt S.rows q := fun q => rowAt_setRow hr
  have hle : ∀ q, RowLe w w S.rows (S.setRow r { row with lk := false }).rows gs gs q := fun q => ⟨fun row' h => by
    rw [hrat]
    split
    · rename_i e; subst e; rw [hr] at h; obtain rfl := Option.some.inj h; exact ⟨_, rfl, rfl, rfl, rfl, fun b cur e h1 h2 => ⟨cur, e, h2, rfl⟩⟩
    · exact ⟨_, h, rfl, rfl, rfl, fun b cur e h1 h2 => ⟨cur, e, h2, rfl⟩⟩⟩
  have hold : ∀ q row', rowAt (S.setRow r { row with lk := false }).rows q = some row' → ∃ row0, rowAt S.rows q = some row0 := fun q row' h => by
    rw [hrat] at h
    split at h
    · rename_i e; subst e; exact ⟨_, hr⟩
    · exact ⟨_, h⟩
  refine ⟨hd', G, gs, hi.keep, hi.os, hi.tape, hi.output, hi.size, hi.sz, hi.gsub, hi.gnew, hi.glt, fun q row' hq => ?_, fun q row' hq => ?_, fun q row' hq => ?_, fun q q' row' row'' hq hq' => ?_, fun i => (hi.tmp i).step (fun b hb => ⟨hb, rfl⟩) hle (by simp)⟩
  · rw [hrat] at hq
    split at hq
    · rename_i e
      subst e
      obtain rfl := Option.some.inj hq
      have h := hi.row q row hr
      generalize (gs q).1 = ob at h
      cases ob with
      | none => exact h
      | some b =>
        obtain ⟨cur, e, cap, h1, h2, h3, h4, h5, h6, h7⟩ := RowCells.ex h
        refine ⟨cur, e, cap, h1, h2, .of h3.le, h4, h5, h6, ?_⟩
        unfold CellsRel
        dsimp only
        rw [if_neg (by simp)]
        exact h7.t.data hd
    · exact (hi.row q row' hq).step (fun b hb => ⟨hb, rfl⟩) hle (fun _ _ => rfl)
  · obtain ⟨row0, h0⟩ := hold q row' hq
    exact hi.nod q row0 h0
  · obtain ⟨row0, h0⟩ := hold q row' hq
    exact hi.own q row0 h0
  · obtain ⟨row0, h0⟩ := hold q row' hq
    obtain ⟨row1, h1⟩ := hold q' row'' hq'
    exact hi.dis q q' row0 row1 h0 h1
/- Row a is told as row b from now on. -/
mutual
def ren (a b : Nat) : A → A
  | .vw r off len => if r = a then .vw b off len else .vw r off len
  | .pt r j o => if r = a then .pt b j o else .pt r j o
  | .agg xs => .agg (renL a b xs)
  | .tup xs => .tup (renL a b xs)
  | .clo g xs => .clo g (renL a b xs)
  | .un => .un
  | .sc v => .sc v
  | .nil => .nil
  | .sl o n xs => .sl o n xs
  | .rp xs => .rp xs
  | .bx xs => .bx xs
def renL (a b : Nat) : List A → List A
  | [] => []
  | x :: xs => ren a b x :: renL a b xs
end
theorem renL_eq (a b : Nat) : ∀ xs : List A, renL a b xs = xs.map (ren a b)
  | [] => rfl
  | x :: xs => by rw [renL, renL_eq a b xs]; rfl
theorem ren_agg (a b : Nat) (xs : List A) : ren a b (.agg xs) = .agg (xs.map (ren a b)) := by rw [ren, renL_eq]
theorem ren_tup (a b : Nat) (xs : List A) : ren a b (.tup xs) = .tup (xs.map (ren a b)) := by rw [ren, renL_eq]
theorem ren_clo (a b g : Nat) (xs : List A) : ren a b (.clo g xs) = .clo g (xs.map (ren a b)) := by rw [ren, renL_eq]
theorem Rel.ren {w : World} {G : Nat → Prop} {x : A} {v : Value} {F : List Nat} (h : Rel w G x v F) (a b : Nat) : Fw.ren a b x = x := by
  refine Rel.rec (motive_1 := fun x v F _ => Fw.ren a b x = x) (motive_2 := fun xs vs F _ => xs.map (Fw.ren a b) = xs)
    ?_ ?_ ?_ ?_ ?_ ?_ ?_ ?_ ?_ ?_ ?_ ?_ ?_ ?_ h
  · intros; rw [Fw.ren]
  · intros; rw [Fw.ren]
  · intros; rw [Fw.ren]
  · intros; rw [Fw.ren]
  · intros; rw [Fw.ren]
  · intros; rw [Fw.ren]
  · intros; rw [Fw.ren]
  · intro xs cs F hl ih; rw [ren_agg, ih]
  · intro xs cs F hl ih; rw [ren_tup, ih]
  · intros; rw [Fw.ren]
  · intros; rw [Fw.ren]
  · intro g caps cs F hl ih; rw [ren_clo, ih]
  · rfl
  · intro x v F xs vs Fs h hl ih ih'; rw [List.map_cons, ih, ih']
theorem TRel.ren {w : World} {G : Nat → Prop} {rows rows' : List (Option Row)} {gs gs' : Gh} {a b : Nat} (hr : ∀ r row, rowAt rows r = some row → ∃ row', rowAt rows' (if r = a then b else r) = some row' ∧ gs' (if r = a then b else r) = gs r ∧ row'.n = row.n ∧ row'.xs.length = row.xs.length)
    {x : A} {v : Value} {F : List Nat} (h : TRel w G rows gs x v F) : TRel w G rows' gs' (Fw.ren a b x) v F := by
  refine TRel.rec (motive_1 := fun x v F _ => TRel w G rows' gs' (Fw.ren a b x) v F) (motive_2 := fun xs vs F _ => TRelL w G rows' gs' (xs.map (Fw.ren a b)) vs F) ?_ ?_ ?_ ?_ ?_ ?_ ?_ ?_ ?_ ?_ h
  · intros; rw [Fw.ren]; exact .un
  · intro x v F h; rw [h.ren]; exact .of h
  · intro r off len k cap c row cur e h1 h2 h3 h4 h5 h6 h7 h8
    obtain ⟨row', q1, q2, q3, q4⟩ := hr r row h1
    have : Fw.ren a b (.vw r off len) = .vw (if r = a then b else r) off len := by rw [Fw.ren]; split <;> rfl
    rw [this]
    exact .vw q1 (by rw [q2]; exact h2) (by omega) h4 (by rw [h5, q3]) h6 (by omega) (by rw [q3]; exact h8)
  · intro r row h1 h2 h3
    obtain ⟨row', q1, q2, q3, q4⟩ := hr r row h1
    have : Fw.ren a b (.vw r 0 0) = .vw (if r = a then b else r) 0 0 := by rw [Fw.ren]; split <;> rfl
    rw [this]
    exact .vwn q1 (by rw [q2]; exact h2) (by rw [h3] at q4; exact List.eq_nil_of_length_eq_zero q4)
  · intro r j o k c row h1 h2 h3
    obtain ⟨row', q1, q2, q3, q4⟩ := hr r row h1
    have : Fw.ren a b (.pt r j o) = .pt (if r = a then b else r) j o := by rw [Fw.ren]; split <;> rfl
    rw [this]
    exact .pt q1 (by rw [q2]; exact h2) (by rw [q3]; exact h3)
  · intro xs cs F hl ih; rw [ren_agg]; exact .agg ih
  · intro xs cs F hl ih; rw [ren_tup]; exact .tup ih
  · intro g caps cs F hl ih; rw [ren_clo]; exact .clo ih
  · exact .nil
  · intro x v F xs vs Fs h hl ih ih'; exact .cons ih ih'
theorem TRelL.ren {w : World} {G : Nat → Prop} {rows rows' : List (Option Row)} {gs gs' : Gh} {a b : Nat} (hr : ∀ r row, rowAt rows r = some row → ∃ row', rowAt rows' (if r = a then b else r) = some row' ∧ gs' (if r = a then b else r) = gs r ∧ row'.n = row.n ∧ row'.xs.length = row.xs.length) :
    ∀ {xs : List A} {vs : List Value} {F : List Nat}, TRelL w G rows gs xs vs F → TRelL w G rows' gs' (xs.map (Fw.ren a b)) vs F
  | _, _, _, .nil => .nil
  | _, _, _, .cons h hl => .cons (h.ren hr) (hl.ren hr)
def renRow (a b : Nat) (row : Row) : Row := if row.lk then { row with xs := row.xs.map (ren a b) } else row
def renRows (a b : Nat) (rows : List (Option Row)) : List (Option Row) := rows.map (Option.map (renRow a b))
def renT (a b : Nat) (t : List (Nat × A)) : List (Nat × A) := t.map fun p => (p.1, ren a b p.2)
theorem lk_renT (a b : Nat) : ∀ (t : List (Nat × A)) (i : Nat), lk (renT a b t) i = ren a b (lk t i)
  | [], i => by show A.un = ren a b .un; rw [ren]
  | (k, x) :: l, i => by
    have ih := lk_renT a b l i
    simp only [renT] at ih
    simp only [renT, List.map_cons, lk]
    split
    · rfl
    · exact ih
theorem rowAt_renRows (a b : Nat) (rows : List (Option Row)) (i : Nat) : rowAt (renRows a b rows) i = (rowAt rows i).map (renRow a b) := by
  simp only [rowAt, renRows, List.getElem?_map]
  cases h : rows[i]? with
  | none => rfl
  | some o => cases o <;> rfl
theorem renRow_n (a b : Nat) (row : Row) : (renRow a b row).n = row.n := by unfold renRow; split <;> rfl
theorem renRow_len (a b : Nat) (row : Row) : (renRow a b row).xs.length = row.xs.length := by unfold renRow; split <;> simp
theorem ren_cells (a b : Nat) (x : A) : (ren a b x).cells = x.cells.map (ren a b) := by
  have e1 : ∀ r o l, ren a b (.vw r o l) = .vw (if r = a then b else r) o l := fun r o l => by rw [ren]; split <;> rfl
  have e2 : ∀ r o l, ren a b (.pt r o l) = .pt (if r = a then b else r) o l := fun r o l => by rw [ren]; split <;> rfl
  cases x with
  | vw r o l => simp only [A.cells, List.map_cons, List.map_nil, e1]
  | pt r o l => simp only [A.cells, List.map_cons, List.map_nil, e2]
  | _ => simp only [ren, renL_eq, A.cells, List.map_cons, List.map_nil]
theorem ren_width (a b : Nat) (x : A) : (ren a b x).width = x.width := by simp [A.width, ren_cells]
theorem ren_flat (a b : Nat) (xs : List A) : flat (xs.map (ren a b)) = (flat xs).map (ren a b) := by
  induction xs with
  | nil => rfl
  | cons x xs ih => simp only [flat, List.map_cons, List.flatMap_cons, List.map_append] at *; rw [ih, ren_cells]
/-- Row a becomes row b, where none stood. -/
def State.mv (S : State) (a b : Nat) : State := ⟨renT a b S.t, S.N, ((renRows a b S.rows).set b (((rowAt S.rows a).map (renRow a b)))).set a none⟩
theorem Sbs.mv {a b : Nat} {row : Row} (ha : rowAt S.rows a = some row) (hb : rowAt S.rows b = none) (hlt : b < S.rows.length) : Sbs S (S.mv a b) := by
  intro P E ac w ⟨hd, G, gs, hi⟩
  have hab : a ≠ b := fun e => by rw [e, hb] at ha; cases ha
  have hal := rowAt_lt ha
  have hlen : (renRows a b S.rows).length = S.rows.length := by simp [renRows]
  have hrat : ∀ r, rowAt (S.mv a b).rows r = if r = a then none else if r = b then (rowAt S.rows a).map (renRow a b) else (rowAt S.rows r).map (renRow a b) := fun r => by
    show rowAt (((renRows a b S.rows).set b _).set a none) r = _
    rw [rowAt_set _ _ _ _ (by rw [List.length_set, hlen]; exact hal)]
    split
    · rfl
    · rw [rowAt_set _ _ _ _ (by rw [hlen]; exact hlt)]
      split
      · rfl
      · rw [rowAt_renRows]
  have hcase : ∀ r row', rowAt (S.mv a b).rows r = some row' → ∃ r0 row0, rowAt S.rows r0 = some row0 ∧ row' = renRow a b row0 ∧ r = (if r0 = a then b else r0) ∧ r0 ≠ b ∧ r ≠ a := fun r row' h => by
    rw [hrat] at h
    split at h
    · cases h
    · rename_i h1
      split at h
      · rename_i h2
        rw [ha] at h
        exact ⟨a, row, ha, (Option.some.inj h).symm, by rw [if_pos rfl]; exact h2, hab, h1⟩
      · rename_i h2
        obtain ⟨row0, q1, q2⟩ := Option.map_eq_some_iff.1 h
        exact ⟨r, row0, q1, q2.symm, by rw [if_neg h1], h2, h1⟩
  have hgs : ∀ r0, r0 ≠ b → (fun r => if r = b then gs a else gs r) (if r0 = a then b else r0) = gs r0 := fun r0 h0 => by
    dsimp only
    by_cases h : r0 = a
    · subst h; simp
    · rw [if_neg h, if_neg h0]
  have hren : ∀ r row0, rowAt S.rows r = some row0 → ∃ row', rowAt (S.mv a b).rows (if r = a then b else r) = some row' ∧ (fun r => if r = b then gs a else gs r) (if r = a then b else r) = gs r ∧ row'.n = row0.n ∧ row'.xs.length = row0.xs.length := fun r row0 h => by
    have hrb : r ≠ b := fun e => by rw [e, hb] at h; cases h
    refine ⟨renRow a b row0, ?_, hgs r hrb, renRow_n .., renRow_len ..⟩
    rw [hrat]
    by_cases hra : r = a
    · subst hra
      rw [if_pos rfl, if_neg (fun e => hab e.symm), if_pos rfl, h]; rfl
    · rw [if_neg hra, if_neg hra, if_neg hrb, h]; rfl
  have hall : ∀ r0, r0 ≠ b → Gh.all (fun r => if r = b then gs a else gs r) (if r0 = a then b else r0) = gs.all r0 := fun r0 h0 => by
    have := hgs r0 h0
    simp only [Gh.all] at *
    rw [this]
  refine ⟨hd, G, fun r => if r = b then gs a else gs r, hi.keep, hi.os, hi.tape, hi.output, hi.size, hi.sz, hi.gsub, hi.gnew, hi.glt, fun r row' hr => ?_, fun r row' hr => ?_, fun r row' hr => ?_, fun r r' row' row'' hr hr' hne => ?_, fun i => ?_⟩
  · obtain ⟨r0, row0, h0, rfl, rfl, hb0, hra⟩ := hcase r row' hr
    have hrow := hi.row r0 row0 h0
    have e : (if (if r0 = a then b else r0) = b then gs a else gs (if r0 = a then b else r0)) = gs r0 := hgs r0 hb0
    rw [e]
    generalize (gs r0).1 = ob at hrow
    cases ob with
    | none =>
      obtain ⟨q1, q2⟩ := hrow
      refine ⟨?_, q2⟩
      unfold renRow
      split <;> simp [q1]
    | some c =>
      obtain ⟨cur, ee, cap, h1, h2, h3, h4, h5, h6, h7⟩ := hrow.ex
      unfold CellsRel at h7
      by_cases hl : row0.lk = true
      · have e1 : renRow a b row0 = { row0 with xs := row0.xs.map (ren a b) } := by unfold renRow; rw [if_pos hl]
        rw [e1]
        refine ⟨cur, ee, cap, h1, h2, by simpa using h3, h4, ?_, by simpa using h6, ?_⟩
        · intro x hx
          obtain ⟨y, hy, rfl⟩ := List.mem_map.1 hx
          rw [ren_width]; exact h5 y hy
        · unfold CellsRel
          rw [if_pos hl] at h7
          show if row0.lk = true then _ else _
          rw [if_pos hl, ren_flat]
          simpa using h7.ren hren
      · have e1 : renRow a b row0 = row0 := by unfold renRow; rw [if_neg hl]
        rw [e1]
        refine ⟨cur, ee, cap, h1, h2, h3, h4, h5, h6, ?_⟩
        unfold CellsRel
        rw [if_neg hl] at h7 ⊢
        exact h7
  · obtain ⟨r0, row0, h0, rfl, rfl, hb0, hra⟩ := hcase r row' hr
    rw [hall r0 hb0]; exact hi.nod r0 row0 h0
  · obtain ⟨r0, row0, h0, rfl, rfl, hb0, hra⟩ := hcase r row' hr
    rw [hall r0 hb0]; exact hi.own r0 row0 h0
  · obtain ⟨r0, row0, h0, rfl, rfl, hb0, hra⟩ := hcase r row' hr
    obtain ⟨r1, row1, h1, rfl, rfl, hb1, hra1⟩ := hcase r' row'' hr'
    rw [hall r0 hb0, hall r1 hb1]
    exact hi.dis r0 r1 row0 row1 h0 h1 fun e => hne (by rw [e])
  · show TRel w G (S.mv a b).rows _ (lk (renT a b S.t) i) _ []
    rw [lk_renT]
    exact (hi.tmp i).ren hren
end
end Go.Fw

/- Contracts of a result of which a relation speaks, for what is only read; results frozen. Plain theorems, no condition. -/
set_option linter.unusedVariables false
set_option linter.unusedSimpArgs false
namespace Go.Fw
/-- A contract that tells some result of which R speaks. -/
structure RCtr (P : Program) (g : Nat) (args : List A) (R : A → Prop) : Prop where
  enter : Enter P g
  run : ∀ (w : World) (G : Nat → Prop) (vs : List Value), GoodG P w G → RelL w G args vs [] → Calls P g vs.toArray w (fun e w' => ∃ v F x, R x ∧ e = .returned v ∧ Go.RowKit.Below w.heap.size w w' ∧
    F.Nodup ∧ (∀ b ∈ F, w.heap.size ≤ b) ∧ Rel w' (fun b => (G b ∨ (w.heap.size ≤ b ∧ b < w'.heap.size)) ∧ b ∉ F) x v F)
section
variable {P : Program} {T : Nat → Option TI} {S : State} {Ω : Opq}
theorem PCtr.r {g : Nat} {args : List A} {x : A} (h : PCtr P g args x) {R : A → Prop} (hR : R x) : RCtr P g args R :=
  ⟨h.enter, fun w G vs h1 h2 => Calls.mono (h.run w G vs h1 h2) (by rintro e w' ⟨v, F, rfl, h⟩; exact ⟨v, F, x, hR, rfl, h⟩)⟩
theorem RCtr.p {g : Nat} {args : List A} {x : A} (h : RCtr P g args fun y => y = x) : PCtr P g args x :=
  ⟨h.enter, fun w G vs h1 h2 => Calls.mono (h.run w G vs h1 h2) (by rintro e w' ⟨v, F, y, rfl, rfl, h⟩; exact ⟨v, F, rfl, h⟩)⟩
theorem RCtr.mono {g : Nat} {args : List A} {R R' : A → Prop} (h : RCtr P g args R) (hR : ∀ x, R x → R' x) : RCtr P g args R' :=
  ⟨h.enter, fun w G vs h1 h2 => Calls.mono (h.run w G vs h1 h2) (by rintro e w' ⟨v, F, x, h1, rfl, h⟩; exact ⟨v, F, x, hR _ h1, rfl, h⟩)⟩
theorem RCtr.frz {g : Nat} {args : List A} {R : A → Prop} (h : RCtr P g args R) : RCtr P g args fun x => ∃ y, R y ∧ x = frz y :=
  ⟨h.enter, fun w G vs h1 h2 => Calls.mono (h.run w G vs h1 h2) (by
    rintro e w' ⟨v, F, x, h3, rfl, h4, h5, h6, h7⟩
    exact ⟨v, [], _, ⟨x, h3, rfl⟩, rfl, h4, List.nodup_nil, by simp, h7.frz (fun b hb => ⟨hb.1, by simp⟩) fun b hb => ⟨.inr ⟨h6 b hb, h7.lt b hb⟩, by simp⟩⟩)⟩
theorem PCtr.frz {g : Nat} {args : List A} {x : A} (h : PCtr P g args x) : PCtr P g args (frz x) :=
  ((h.r (R := fun y => y = x) rfl).frz.mono (by rintro x ⟨y, rfl, rfl⟩; rfl)).p
theorem XCtr.r {g : Nat} {args : List A} {R : A → List A → Prop} (h : XCtr P g args R) (hn : args.all noOwn = true) : RCtr P g args fun x => ∃ o, R x o :=
  ⟨h.enter, fun w G vs h1 h2 => Calls.mono (h.run w G vs [] h1 List.nodup_nil (by simp) h2) (by
    rintro e w' ⟨v, Fx, Fo, x, o, h3, rfl, ⟨m1, m2, m3, m4, m5⟩, h5, h6, h7, h8⟩
    have h5' := List.nodup_append.1 h5
    exact ⟨v, Fx, x, ⟨o, h3⟩, rfl, ⟨m1, m2, m3, m4, fun b hb => m5 b hb (by simp)⟩, h5'.1, fun b hb => by simpa using h6 b (by simp [hb]), h7.move_ (fun b hb => ⟨⟨by simpa using hb.1, fun q => hb.2 (by simp [q])⟩, rfl⟩) fun _ _ => rfl⟩)⟩
theorem CallOK_rp {g k : Nat} {args ys0 ys : List A} {R : A → Prop} {K : A → State → Prop} (hc : RCtr P g ys R) (h1 : mapO (roO S k) args = some ys0) (h2 : fitA.fitL k ys0 ys)
    (h : ∀ x, R x → roFree x = true ∧ noOwn (rootA k S x).1 = true ∧ K (rootA k S x).1 (rootA k S x).2) : CallOK P g args S K := by
  refine ⟨hc.enter, fun E G gs tmps w vs hi hl => ?_⟩
  have hys := fitL_rel (fun x y v F => fitA_rel k x y v F) ys0 ys vs [] h2 (mapO_rel (fun x v F y h hy => roO_rel hi k x v F y h hy) hl h1)
  refine Calls.mono (hc.run w (Old w) vs hi.glt.old hys) ?_
  rintro e w' ⟨v, F, x, hx, rfl, hb, hnd, hnew, hr⟩
  obtain ⟨hx, hno, hK⟩ := h x hx
  have hr' : Rel w' (fun b => G b ∧ b ∉ F) x v F := hr.anyG hx _
  have hGF : ∀ b, G b → b ∉ F := fun b h hF => by have := hi.glt b h; have := hnew b hF; omega
  obtain ⟨gs', g1, g2⟩ := adopt_new hi hb hnd hnew (G' := fun b => G b ∧ b ∉ F) (fun b h => ⟨h, hGF b h⟩) (fun b h => ⟨.inl h.1, h.2⟩) (fun b h => Nat.lt_of_lt_of_le (hi.glt b h.1) hb.size) hr' k hno
  exact ⟨v, _, _, _, gs', rfl, hK, g1, g2⟩
theorem call_rp (hΩ : Ω = std) (k : Nat) {g : Nat} {args ys0 ys : List A} {R : A → Prop} {K : A → State → Prop} (hc : RCtr P g ys R) (h1 : mapO (roO S k) args = some ys0) (h2 : fitA.fitL k ys0 ys)
    (h : ∀ x, R x → roFree x = true ∧ noOwn (rootO Ω k S x).1 = true ∧ K (rootO Ω k S x).1 (rootO Ω k S x).2) : CallX P g args S K := by
  subst hΩ
  exact ⟨CallOK_rp (k := k) hc h1 h2 fun x hx => by simp only [← rootO_std]; exact h x hx⟩
theorem CallOK_rf {g k : Nat} {args ys0 ys : List A} {R : A → Prop} {K : A → State → Prop} (hc : RCtr P g ys R) (h1 : mapO (roO S k) args = some ys0) (h2 : fitA.fitL k ys0 ys)
    (h : ∀ x, R x → roFree x = true ∧ noOwn (rootA k S (Fw.frz x)).1 = true ∧ K (rootA k S (Fw.frz x)).1 (rootA k S (Fw.frz x)).2) : CallOK P g args S K := by
  refine ⟨hc.enter, fun E G gs tmps w vs hi hl => ?_⟩
  have hys := fitL_rel (fun x y v F => fitA_rel k x y v F) ys0 ys vs [] h2 (mapO_rel (fun x v F y h hy => roO_rel hi k x v F y h hy) hl h1)
  refine Calls.mono (hc.run w (Old w) vs hi.glt.old hys) ?_
  rintro e w' ⟨v, F, x, hx, rfl, hb, hnd, hnew, hr⟩
  obtain ⟨hx, hno, hK⟩ := h x hx
  have hr' : Rel w' (fun b => G b ∧ b ∉ F) x v F := hr.anyG hx _
  have hr2 : Rel w' (fun b => (G b ∨ b ∈ F) ∧ b ∉ ([] : List Nat)) (Fw.frz x) v [] := hr'.frz (fun b hb => ⟨.inl hb.1, by simp⟩) fun b hb => ⟨.inr hb, by simp⟩
  obtain ⟨gs', g1, g2⟩ := adopt_new hi hb List.nodup_nil (by simp) (fun b h => ⟨.inl h, by simp⟩) (fun b h => ⟨h.1.imp id (hnew b), h.2⟩)
    (fun b h => h.1.elim (fun h => Nat.lt_of_lt_of_le (hi.glt b h) hb.size) (hr.lt b)) hr2 k hno
  exact ⟨v, _, _, _, gs', rfl, hK, g1, g2⟩
/-- The result is frozen. -/
theorem call_rf (hΩ : Ω = std) (k : Nat) {g : Nat} {args ys0 ys : List A} {R : A → Prop} {K : A → State → Prop} (hc : RCtr P g ys R) (h1 : mapO (roO S k) args = some ys0) (h2 : fitA.fitL k ys0 ys)
    (h : ∀ x, R x → roFree x = true ∧ noOwn (rootO Ω k S (Fw.frz x)).1 = true ∧ K (rootO Ω k S (Fw.frz x)).1 (rootO Ω k S (Fw.frz x)).2) : CallX P g args S K := by
  subst hΩ
  exact ⟨CallOK_rf (k := k) hc h1 h2 fun x hx => by simp only [← rootO_std]; exact h x hx⟩
theorem call_pf (hΩ : Ω = std) (k : Nat) {g : Nat} {args ys0 ys : List A} {x y : A} {K : A → State → Prop} (hc : PCtr P g ys x) (h1 : mapO (roO S k) args = some ys0) (h2 : fitA.fitL k ys0 ys) (hx : roFree x = true) (hy : Fw.frz x = y)
    (hno : noOwn (rootO Ω k S y).1 = true) (hK : K (rootO Ω k S y).1 (rootO Ω k S y).2) : CallX P g args S K :=
  call_rf hΩ k (hc.r (R := fun z => z = x) rfl) h1 h2 fun z hz => by subst hz; subst hy; exact ⟨hx, hno, hK⟩
/-- A walk of the body gives the contract. -/
theorem RCtr.of {g : Nat} {c : Code} {N : Nat} {rs : List ResultVar} {xs : List A} {R : A → Prop} (hf : FnAt P g c N rs) (hN : xs.length ≤ N) (h : VC P c (entryS N xs) (fun e S => ∃ x, R x ∧ outK P rs x e S)) : RCtr P g xs R := by
  obtain ⟨hen, fn, h1, h2, h3, h4⟩ := hf
  refine ⟨hen, fun w G vs hG hl => ?_⟩
  have hlen := hl.length
  refine calls_of_wp h1 h2 ?_
  have hinv : Inv (P := P) ⟨w, G, fun _ => False, fun _ => undef⟩ G (fun _ => (none, [])) (entryS N xs) (vs.toArray ++ Array.replicate (fn.ntmps - vs.toArray.size) undef) w := by
    refine ⟨fun _ _ _ => rfl, rfl, rfl, rfl, Nat.le_refl _, ?_, fun _ h => h, fun _ h => .inl h, hG, ?_, ?_, ?_, ?_, fun i => ?_⟩
    · simp [entryS, h3]; omega
    · intro r row hr; simp [entryS, rowAt] at hr
    · intro r row hr; simp [entryS, rowAt] at hr
    · intro r row hr; simp [entryS, rowAt] at hr
    · intro r r' row row' hr; simp [entryS, rowAt] at hr
    · show TRel w G [] _ (lk (entryT 0 xs) i) _ []
      rw [lk_entryT, if_pos (Nat.zero_le _), Nat.sub_zero]
      unfold vat
      by_cases hi : i < xs.length
      · obtain ⟨v, hv, hr⟩ := hl.get i xs[i] (List.getElem?_eq_getElem hi)
        rw [List.getD_eq_getElem?_getD, List.getElem?_eq_getElem hi]
        have : (vs.toArray ++ Array.replicate (fn.ntmps - vs.toArray.size) undef).getD i undef = v := by
          rw [Array.getD_eq_getD_getElem?, Array.getElem?_append_left (by simp; omega)]
          simp [hv]
        rw [if_pos (by simp; omega), this]; exact .of hr
      · rw [List.getD_eq_getElem?_getD, List.getElem?_eq_none (by omega)]
        exact .un
  refine wp_mono (h _ { tmps := vs.toArray ++ Array.replicate (fn.ntmps - vs.toArray.size) undef, defers := [] } w ⟨rfl, G, _, hinv⟩) ?_
  rintro e a' w' ⟨S', ⟨hd, G', gs', hi'⟩, x, hR, hK⟩
  have fin : Outs P rs x S' → a'.defers = [] ∧ ∃ v, (results fn a'.tmps).run P w' = .ok v w' ∧ (∃ v_1 F y, R y ∧ Ending.returned v = .returned v_1 ∧ Go.RowKit.Below w.heap.size w w' ∧
      F.Nodup ∧ (∀ b ∈ F, w.heap.size ≤ b) ∧ Rel w' (fun b => (G b ∨ (w.heap.size ≤ b ∧ b < w'.heap.size)) ∧ b ∉ F) y v_1 F) := by
    intro ho
    refine ⟨hd, ?_⟩
    obtain ⟨vs', zs, F, k, g1, g2, g3, g4, g5⟩ := ho _ _ _ _ _ hi'
    have hres := fitA_rel k _ _ _ _ g5 (oneA_rel g2)
    refine ⟨oneV vs', h4 _ _ _ g1, _, F, x, hR, rfl, ⟨hi'.os, hi'.tape, hi'.output, hi'.size, fun b hb => hi'.keep b hb id⟩, g3, fun b hb => ?_, ?_⟩
    · rcases (g4 b hb).2 with h | h
      · exact h.elim
      · exact h
    · refine hres.move_ (fun b hb => ⟨⟨?_, fun hF => (g4 b hF).1 hb⟩, rfl⟩) (fun b hb => rfl)
      rcases hi'.gnew b hb with h | h | h
      · exact .inl h
      · exact h.elim
      · exact .inr ⟨h, hi'.glt b hb⟩
  cases e with
  | normal => exact fin hK
  | ret => exact fin hK
  | _ => exact hK.elim
theorem RCtr.walk (hT : TabOK P T) (hΩ : Ω = std) {g : Nat} {c : Code} {N : Nat} {rs : List ResultVar} {xs : List A} {R : A → Prop} (hf : FnAt P g c N rs) (hN : Nat.ble xs.length N = true)
    (h : vC Ω P T c (entryS N xs) (fun e S => ∃ x, R x ∧ outV Ω T rs x e S)) : RCtr P g xs R :=
  RCtr.of hf (Nat.le_of_ble_eq_true hN) (VC.mono (vstart hT hΩ h) fun e S' ⟨x, hR, h⟩ => ⟨x, hR, outV_ok hT (hΩ ▸ h)⟩)
end
end Go.Fw

/- Regions that draw their order, of which the operations that do something may stand in a few orders. Plain theorems, no condition. -/
set_option linter.unusedVariables false
set_option linter.unusedSimpArgs false
namespace Go.Fw
/-- The orders that may come. -/
inductive Ord where
  | fin
  | step (n : Nat) (o : Ord)
  | two (n : Nat) (o : Ord) (m : Nat) (p : Ord)
def Ord.depth : Ord → Nat
  | .fin => 0
  | .step _ o => o.depth + 1
  | .two _ o _ _ => o.depth + 1
section
variable {P : Program} {T : Nat → Option TI} {S : State} {Ω : Opq}
def vOne (Ω : Opq) (P : Program) (T : Nat → Option TI) (ops : List Oper) (mv : Option Nat) (n : Nat) (S : State) (k : Option Nat → State → Prop) : Prop :=
  match ops[n]? with
    | some o => (match o.guard with
      | none => vOp Ω P T mv o S fun S' => k (madeBy o) S'
      | some _ => False)
    | none => False
def vOrd (Ω : Opq) (P : Program) (T : Nat → Option TI) (ops : List Oper) : Ord → Option Nat → State → (State → Prop) → Prop
  | .fin, _, S, K => K S
  | .step n o, mv, S, K => vOne Ω P T ops mv n S fun mv' S' => vOrd Ω P T ops o mv' S' K
  | .two n o m p, mv, S, K => (vOne Ω P T ops mv n S fun mv' S' => vOrd Ω P T ops o mv' S' K) ∧ (vOne Ω P T ops mv m S fun mv' S' => vOrd Ω P T ops p mv' S' K)
def heldO (ops : Array Oper) : Ord → Array Bool → Bool
  | .fin, l => (Region.ready .any ops l).isEmpty
  | .step n o, l => decide (Region.ready .any ops l = [n]) && heldO ops o (l.setIfInBounds n true)
  | .two n o m p, l => decide (Region.ready .any ops l = [n, m]) && decide (o.depth = p.depth) && heldO ops o (l.setIfInBounds n true) && heldO ops p (l.setIfInBounds m true)
theorem vOne_ok (hT : TabOK P T) {ops : List Oper} {E : Env P} {mv : Option Nat} {n : Nat} {S : State} {k : Option Nat → State → Prop} (h : vOne std P T ops mv n S k) {a : Act} {w : World} (hs : SInv E S a w)
    {K' : Act → World → Prop} {Q : Exit → Act → World → Prop} (hk : ∀ mv' S' a' w', k mv' S' → SInv E S' a' w' → K' a' w') : wpOp P ops.toArray Q n K' a w := by
  unfold vOne at h
  split at h <;> try exact h.elim
  rename_i o ho
  split at h <;> try exact h.elim
  rename_i hg
  unfold wpOp
  rw [show ops.toArray[n]? = some o by simpa using ho]
  simp only
  rw [if_pos (by simp [Region.wanted, hg])]
  exact .inl (vOp_ok hT h E a w _ _ hs fun S' a' w' hK hs' => hk _ S' a' w' hK hs')
theorem ord_ok (hT : TabOK P T) {ops : List Oper} {Q : Exit → Act → World → Prop} {kp : Nat → Bool} {Sc : World → Prop} {E : Env P} (hSc : ∀ S a w, SInv E S a w → Sc w) {K : State → Prop} (hK : ∀ S a w, K S → SInv E S a w → Q .normal a w) : ∀ (o : Ord) (l : Array Bool) (mv : Option Nat) (S : State) (a : Act) (w : World), heldO ops.toArray o l = true →
    vOrd std P T ops o mv S K → SInv E S a w → anyK P .any ops.toArray Q kp Sc o.depth l a w
  | .fin, l, mv, S, a, w, hB, h, hs => ⟨by simpa [heldO] using hB, hK S a w h hs⟩
  | .step n o, l, mv, S, a, w, hB, h, hs => by
    simp only [heldO, Bool.and_eq_true, decide_eq_true_eq] at hB
    unfold vOrd at h
    refine ⟨fun h0 => (by rw [hB.1] at h0; cases h0), fun i hi => ?_⟩
    rw [hB.1] at hi
    have hin : i = n := by simpa using hi
    subst hin
    exact vOne_ok hT h hs fun mv' S' a' w' hK' hs' => ⟨fun _ => hSc _ _ _ hs', ord_ok hT hSc hK o _ _ S' a' w' hB.2 hK' hs'⟩
  | .two n o m p, l, mv, S, a, w, hB, h, hs => by
    simp only [heldO, Bool.and_eq_true, decide_eq_true_eq] at hB
    unfold vOrd at h
    refine ⟨fun h0 => (by rw [hB.1.1.1] at h0; cases h0), fun i hi => ?_⟩
    rw [hB.1.1.1] at hi
    have hin : i = n ∨ i = m := by simpa using hi
    rcases hin with rfl | rfl
    · exact vOne_ok hT h.1 hs fun mv' S' a' w' hK' hs' => ⟨fun _ => hSc _ _ _ hs', ord_ok hT hSc hK o _ _ S' a' w' hB.1.2 hK' hs'⟩
    · exact vOne_ok hT h.2 hs fun mv' S' a' w' hK' hs' => ⟨fun _ => hSc _ _ _ hs', by rw [hB.1.1.2]; exact ord_ok hT hSc hK p _ _ S' a' w' hB.2 hK' hs'⟩
def lordB (ops : Array Oper) (qs : List Nat) (o : Ord) : Bool :=
  Region.noSelect ops && (decide (qs.length + o.depth = ops.size) && (quietB ops (fun _ => true) qs (Array.replicate ops.size false) && heldO ops o (listAll qs (Array.replicate ops.size false))))
/-- A region that draws its order: qs read rows rs; the others, in the orders o, leave these alone. -/
theorem VC_lord (hT : TabOK P T) (hΩ : Ω = std) (hm : P.follows .mixedOrders = true) (qs : List Nat) (o : Ord) (rs hs : List Nat) {id : Nat} {ops : Array Oper} {K : Exit → State → Prop} (hB : lordB ops qs o = true)
    (h : vRs Ω T rs ops.toList qs S fun S1 => lendB S1 rs hs = true ∧ ∀ vs : Nat → Value, vOrd Ω P T ops.toList o none (S1.lend rs hs vs) fun S2 => keptA S2 vs hs ∧ backB S2 rs = true ∧
      K .normal (S2.unlend S1 rs hs)) : VC P (.region id ops true) S K := by
  subst hΩ
  intro E a w hs0
  have hops : ops = ops.toList.toArray := by simp
  rw [hops] at hB ⊢
  obtain ⟨hd, G, gs, hi⟩ := hs0
  simp only [lordB, Bool.and_eq_true, decide_eq_true_eq] at hB
  obtain ⟨hsel, hsz, hq, hc1⟩ := hB
  have hw1 : Go.RowKit.Below w.heap.size w { w with drawn := w.drawn + 1 } := ⟨rfl, rfl, rfl, Nat.le_refl _, fun _ _ => rfl⟩
  have hi1 : Inv E G gs S a.tmps { w with drawn := w.drawn + 1 } := hi.below hw1 (fun _ h => h) (fun _ h => .inl h) (fun b h => Nat.lt_of_lt_of_le (hi.glt b h) hw1.size)
  generalize hw1e : { w with drawn := w.drawn + 1 } = w1 at *
  have hwp : wpAny P .any ops.toList.toArray (fun e a' w' => e = .normal ∧ ∃ S', (∃ S1, S1.rows = S.rows ∧ SInv (envAt E G gs S1 w1) S' a' w') ∧ K .normal S') ops.toList.toArray.size (Array.replicate ops.toList.toArray.size false) a w1 := by
    refine any_of_K (kp := fun _ => true) (Sc := AgreeR G gs rs w1) _ _ _ _ ?_
    refine Eq.mp (congrArg (fun n => anyK P .any ops.toList.toArray _ _ _ n (Array.replicate ops.toList.toArray.size false) a w1) hsz) ?_
    refine quiet_ok (rs := rs) hT (fun c a w h => by cases h.1) hsel qs _ S a hq h hd hi1 ?_
    rintro S1 a1 ⟨hl, hvs⟩ hr1 hd1 hi2
    simp only [lendB, Bool.and_eq_true, decide_eq_true_eq, List.all_eq_true] at hl
    obtain ⟨hnd, hrows, hhs⟩ := hl
    have hrow : ∀ r ∈ rs, ∃ row, rowAt S1.rows r = some row ∧ rowOnly rs row = true := fun r hr => by
      have := hrows r hr
      split at this
      · rename_i row h; exact ⟨row, h, this⟩
      · cases this
    obtain ⟨gs0, hl1, hl2, hl3⟩ := hi2.lend (rs := rs) (hs := hs) hnd (fun r hr => let ⟨row, h, _⟩ := hrow r hr; ⟨row, h⟩) (fun i hi => (hhs i hi).1)
    have hSc : ∀ S' a' w', SInv (envL E G gs gs0 S1 rs a1.tmps w1) S' a' w' → AgreeR G gs rs w1 w' := fun S' a' w' ⟨_, G', gs', hi'⟩ => by
      have hcore := lent_agree hi2 hl2 hl3 hi' (fun r hr => let ⟨row, h, _⟩ := hrow r hr; ⟨row, h⟩)
      exact hcore
    refine ord_ok hT hSc (K := fun S2 => keptA S2 (vat E a1.tmps) hs ∧ backB S2 rs = true ∧ K .normal (S2.unlend S1 rs hs)) ?_ o _ none _ a1 w1 hc1 (hvs (vat E a1.tmps)) ⟨hd1, G, gs0, hl1⟩
    rintro S2 a2 w2 ⟨hk, hb, hn2⟩ ⟨hd2, G2, gs2, hi3⟩
    simp only [backB, List.all_eq_true, Bool.and_eq_true, decide_eq_true_eq] at hb
    obtain ⟨hu, _⟩ := hi2.unlend (hs := hs) hl2 hl3 hi3 (keptA_spec hk) (fun r hr => by
      obtain ⟨h1, h2⟩ := hb r hr
      refine ⟨?_, h2⟩
      split at h1
      · assumption
      · cases h1) (fun i hi => (hhs i hi).2) hrow
    exact ⟨rfl, _, ⟨S1, hr1, hd2, G2, _, hu⟩, hn2⟩
  have hwp2 : (Code.region id ops.toList.toArray true).wp P (fun e a' w' => e = .normal ∧ ∃ S', (∃ S1, S1.rows = S.rows ∧ SInv (envAt E G gs S1 w1) S' a' w') ∧ K .normal S') a w := wp_region_any hm (by rw [hw1e]; exact hwp)
  refine wp_mono hwp2 ?_
  rintro e a' w' ⟨rfl, S', ⟨S1, hr1, hd', G', gs', hi'⟩, hK'⟩
  have e2 : envAt E G gs S1 w1 = envAt E G gs S w1 := by unfold envAt; rw [hr1]
  rw [e2] at hi'
  exact ⟨S', ⟨hd', G', gs', hi1.back hi'⟩, hK'⟩
end
end Go.Fw

/- Regions that draw their order, taken by a plan: operations that only read, calls, orders, guards. Plain theorems, no condition. -/
set_option linter.unusedVariables false
set_option linter.unusedSimpArgs false
namespace Go.Fw
/-- A plan: q: an operation that only reads; s: the one that must come; two: one of two. -/
inductive Pln where
  | fin
  | q (n : Nat) (p : Pln)
  | s (n : Nat) (p : Pln)
  | two (n : Nat) (p : Pln) (m : Nat) (r : Pln)
def Pln.depth : Pln → Nat
  | .fin => 0
  | .q _ p => p.depth + 1
  | .s _ p => p.depth + 1
  | .two _ p _ _ => p.depth + 1
def Pln.qs : List Nat → Pln → Pln
  | [], p => p
  | n :: ns, p => .q n (Pln.qs ns p)
section
variable {P : Program} {T : Nat → Option TI} {S : State} {Ω : Opq}
end
end Go.Fw

/- Texts cut at a byte; the library's Split, as a contract. Plain theorems. -/
set_option linter.unusedVariables false
set_option linter.unusedSimpArgs false
namespace Go.Proofs
open Go.Shelf
def Tryd.genS_ren : Go.Shelf.Ren := ⟨fun | 221 => 31 | 268 => 37 | 138 => 38 | 143 => 39 | 195 => 40 | 197 => 41 | 218 => 42 | 219 => 43 | 260 => 44 | 217 => 45 | 225 => 46 | 224 => 47 | 267 => 48 | 266 => 49 | 314 => 50 | n => n, fun | 9 => 9 | 3 => 3 | 31 => 29 | 4 => 4 | 0 => 0 | 105 => 61 | 21 => 21 | 5 => 5 | 46 => 65 | 119 => 66 | 139 => 69 | 138 => 68 | 146 => 71 | 51 => 70 | n => n, fun | 1 => 0 | 3 => 1 | 4 => 2 | n => n⟩
theorem Tryd.genS : Go.Proofs.Lays.n221 Tryd.prog Tryd.genS_ren where
  mixed := by kernel_rfl
  f138 := Tryd.func38.trans (congrArg some (by kernel_rfl))
  f143 := Tryd.func39.trans (congrArg some (by kernel_rfl))
  f195 := Tryd.func40.trans (congrArg some (by kernel_rfl))
  f197 := Tryd.func41.trans (congrArg some (by kernel_rfl))
  f217 := Tryd.func45.trans (congrArg some (by kernel_rfl))
  f218 := Tryd.func42.trans (congrArg some (by kernel_rfl))
  f219 := Tryd.func43.trans (congrArg some (by kernel_rfl))
  f221 := Tryd.func31.trans (congrArg some (by kernel_rfl))
  f224 := Tryd.func47.trans (congrArg some (by kernel_rfl))
  f225 := Tryd.func46.trans (congrArg some (by kernel_rfl))
  f260 := Tryd.func44.trans (congrArg some (by kernel_rfl))
  f266 := Tryd.func49.trans (congrArg some (by kernel_rfl))
  f267 := Tryd.func48.trans (congrArg some (by kernel_rfl))
  f268 := Tryd.func37.trans (congrArg some (by kernel_rfl))
  f314 := Tryd.func50.trans (congrArg some (by kernel_rfl))
  t0 := Tryd.underlying0
  a0 := Tryd.isAgg0
  z0 := Tryd.sizeOf0
  v0 := Tryd.zeroValue0
  t3 := Tryd.underlying3
  a3 := Tryd.isAgg3
  z3 := Tryd.sizeOf3
  v3 := Tryd.zeroValue3
  t4 := Tryd.underlying4
  a4 := Tryd.isAgg4
  z4 := Tryd.sizeOf4
  v4 := Tryd.zeroValue4
  t5 := Tryd.underlying5
  a5 := Tryd.isAgg5
  z5 := Tryd.sizeOf5
  v5 := Tryd.zeroValue5
  t9 := Tryd.underlying9
  a9 := Tryd.isAgg9
  z9 := Tryd.sizeOf9
  v9 := Tryd.zeroValue9
  t21 := Tryd.underlying21
  a21 := Tryd.isAgg21
  z21 := Tryd.sizeOf21
  v21 := Tryd.zeroValue21
  t31 := Tryd.underlying29
  a31 := Tryd.isAgg29
  z31 := Tryd.sizeOf29
  v31 := Tryd.zeroValue29
  t46 := Tryd.underlying65
  a46 := Tryd.isAgg65
  z46 := Tryd.sizeOf65
  v46 := Tryd.zeroValue65
  t51 := Tryd.underlying70
  a51 := Tryd.isAgg70
  z51 := Tryd.sizeOf70
  v51 := Tryd.zeroValue70
  t105 := Tryd.underlying61
  a105 := Tryd.isAgg61
  z105 := Tryd.sizeOf61
  v105 := Tryd.zeroValue61
  t119 := Tryd.underlying66
  a119 := Tryd.isAgg66
  z119 := Tryd.sizeOf66
  t138 := Tryd.underlying68
  a138 := Tryd.isAgg68
  z138 := Tryd.sizeOf68
  v138 := Tryd.zeroValue68
  t139 := Tryd.underlying69
  a139 := Tryd.isAgg69
  z139 := Tryd.sizeOf69
  v139 := Tryd.zeroValue69
  t146 := Tryd.underlying71
  a146 := Tryd.isAgg71
  z146 := Tryd.sizeOf71
  v146 := Tryd.zeroValue71
  g1 := by kernel_rfl
  g3 := by kernel_rfl
  g4 := by kernel_rfl

end Go.Proofs
namespace Go.Proofs.YthlfefblhlmbgaaDoor
open Go Go.Fw Go.Proofs Go.Lib
set_option maxRecDepth 100000
/-- A text cut at a byte. -/
def cutAt (c : UInt8) : List UInt8 → List (List UInt8)
  | [] => [[]]
  | x :: xs => if x = c then [] :: cutAt c xs else match cutAt c xs with
    | [] => [[x]]
    | y :: ys => (x :: y) :: ys
theorem cutAt_ne {c : UInt8} : ∀ {s : List UInt8}, cutAt c s ≠ []
  | [] => by simp [cutAt]
  | x :: xs => by
    unfold cutAt
    split
    · simp
    · split <;> simp
theorem cutAt_len {c : UInt8} : ∀ {s : List UInt8}, (cutAt c s).length ≤ s.length + 1
  | [] => by simp [cutAt]
  | x :: xs => by
    have ih := cutAt_len (c := c) (s := xs)
    unfold cutAt
    split
    · simp only [List.length_cons]; omega
    · split
      · simp
      · rename_i h; rw [h] at ih; simp only [List.length_cons] at ih ⊢; omega
theorem cutAt_mem {c : UInt8} : ∀ {s l : List UInt8}, l ∈ cutAt c s → l.length ≤ s.length
  | [], l, h => by simp [cutAt] at h; simp [h]
  | x :: xs, l, h => by
    unfold cutAt at h
    split at h
    · rcases List.mem_cons.1 h with rfl | h
      · simp
      · have := cutAt_mem h; simp only [List.length_cons]; omega
    · split at h
      · rename_i he; exact absurd he cutAt_ne
      · rename_i y ys he
        rcases List.mem_cons.1 h with rfl | h
        · have := cutAt_mem (c := c) (s := xs) (l := y) (by rw [he]; simp); simp only [List.length_cons]; omega
        · have := cutAt_mem (c := c) (s := xs) (l := l) (by rw [he]; simp [h]); simp only [List.length_cons]; omega
theorem index_cons (b c : UInt8) (l : List UInt8) : Lib.index (b :: l) [c] = if b = c then 0 else if Lib.index l [c] = -1 then -1 else Lib.index l [c] + 1 := by
  rw [Lib.index]
  by_cases h : b = c
  · subst h; simp [List.isPrefixOf]
  · have hp : ([c] : List UInt8).isPrefixOf (b :: l) = false := by simp [List.isPrefixOf, Ne.symm h]
    rw [hp, if_neg h]
    simp
theorem splitK_cut (c : UInt8) : ∀ s : List UInt8, splitK [c] 0 (Lib.count s [c]) s = cutAt c s
  | [] => by rw [count_miss (by simp [Lib.index])]; rfl
  | b :: l => by
    have ih := splitK_cut c l
    by_cases h : b = c
    · subst h
      rw [count_cons_eq, Nat.add_comm, splitK, index_cons, if_pos rfl]
      simp only [cutAt, if_true]
      rw [← ih]; simp
    · rw [count_cons_ne b c l h]
      simp only [cutAt, if_neg h]
      rw [← ih]
      cases hk : Lib.count l [c] with
      | zero => simp [splitK]
      | succ k =>
        have hm : Lib.index l [c] ≠ -1 := fun e => by rw [count_miss e] at hk; cases hk
        have hge := index_ge l [c]
        obtain ⟨j, hj⟩ : ∃ j : Nat, Lib.index l [c] = j := ⟨(Lib.index l [c]).toNat, by omega⟩
        have e1 : (((j : Int) + 1) == -1) = false := beq_eq_false_iff_ne.2 (by omega)
        have e2 : ((j : Int) == -1) = false := beq_eq_false_iff_ne.2 (by omega)
        have e3 : ((j : Int) + 1).toNat = j + 1 := by omega
        simp only [splitK, index_cons, if_neg h, if_neg hm]
        rw [hj]
        simp only [e1, e2, e3, Int.toNat_natCast, Bool.false_eq_true, if_false, Nat.add_zero, List.length_singleton]
        simp
theorem relC1 {w : World} {G : Nat → Prop} {x : A} {xs : List A} {vs : List Value} (h : RelL w G (x :: xs) vs []) : ∃ v us, vs = v :: us ∧ Rel w G x v [] ∧ RelL w G xs us [] := by
  generalize hF : ([] : List Nat) = F at h
  generalize hx : x :: xs = ys at h
  cases h with
  | nil => cases hx
  | cons h hl =>
    cases hx
    obtain ⟨rfl, rfl⟩ := List.append_eq_nil_iff.1 hF.symm
    exact ⟨_, _, rfl, h, hl⟩
theorem ofS1 {w : World} {G : Nat → Prop} : ∀ (xs : List (List UInt8)), RelL w G (xs.map str) (xs.map fun c => Value.string (mkS c)) []
  | [] => .nil
  | x :: xs => .cons (F := []) (Fs := []) (.sc rfl) (ofS1 xs)
theorem flatS1 (xs : List (List UInt8)) : flat (xs.map str) = xs.map str := by
  induction xs with
  | nil => rfl
  | cons x xs ih => simp only [flat, List.map_cons, List.flatMap_cons] at *; rw [ih]; rfl
theorem c_genSplit (c : UInt8) (s : List UInt8) (hs : s.length ≤ 1048576) : PCtr PP n_strings_genSplit [str s, str [c], i64 0, i64 (-1)] (.sl true 1 ((cutAt c s).map str)) := by
  refine ⟨fn_strings_genSplit.1, fun w G vs hG hl => ?_⟩
  obtain ⟨v1, us, rfl, h1, hl⟩ := relC1 hl
  obtain ⟨v2, us, rfl, h2, hl⟩ := relC1 hl
  obtain ⟨v3, us, rfl, h3, hl⟩ := relC1 hl
  obtain ⟨v4, us, rfl, h4, hl⟩ := relC1 hl
  cases hl
  cases h1
  cases h2
  cases h3
  cases h4
  have hsz : (mkS s).size = s.length := rfl
  have h1c : 1 ≤ (mkS [c]).size := Nat.le_refl 1
  have L := Tryd.genS
  have L143 : Go.Proofs.Lays.n143 PP Tryd.genS_ren := { L with }
  have L138 : Go.Proofs.Lays.n138 PP Tryd.genS_ren := { L with }
  have hle := countB_le (mkS [c]) h1c (mkS s).size (mkS s) (Nat.le_refl _)
  have hlen := splitB_all (mkS [c]) h1c 0 _ (mkS s) rfl
  have hd : (splitB (mkS [c]) 0 (countB (mkS s) (mkS [c])) (mkS s)).map (·.data.toList) = cutAt c s := by rw [splitB_data]; exact splitK_cut c s
  have hcl : (cutAt c s).length = countB (mkS s) (mkS [c]) + 1 := by rw [← hd, List.length_map, hlen]
  have ht : (PP.info? (Tryd.genS_ren.t 9)).map (fun i => (i.zero, i.size, i.bytes)) = some (some (.string ByteArray.empty), 1, 16) := by kernel_rfl
  have g := Any.strings_genSplit_core Tryd.genS ht (mkS s) (mkS [c]) 0 (-1) (countB (mkS s) (mkS [c]) + 1) w (by rw [hsz]; omega) h1c (Nat.zero_le _)
    (fun x cc hx => (Any.strings_Index_one L143 x c _).mono fun e w' ⟨he, hw⟩ => ⟨by rw [he]; exact congrArg (fun z => Ending.returned (Value.int .i64 z)) (index_one _ _).symm, hw⟩)
    ((Any.strings_Count_one L138 (mkS s) c w).mono fun e w' ⟨he, hw⟩ => ⟨by rw [he]; exact congrArg (fun z : Nat => Ending.returned (Value.int .i64 (z : Int))) (count_one _ _).symm, hw⟩) (by decide) (by decide) (by rw [if_pos (by decide)]; omega)
  rw [Nat.add_sub_cancel, hlen] at g
  have e2 : cellsOf (splitB (mkS [c]) 0 (countB (mkS s) (mkS [c])) (mkS s)) (countB (mkS s) (mkS [c]) + 1) = ((splitB (mkS [c]) 0 (countB (mkS s) (mkS [c])) (mkS s)).map Value.string).toArray := by rw [← hlen]; exact cellsOf_full _
  have e3 : (splitB (mkS [c]) 0 (countB (mkS s) (mkS [c])) (mkS s)).map Value.string = (cutAt c s).map fun c => Value.string (mkS c) := by
    rw [← hd, List.map_map]
    exact List.map_congr_left fun x _ => rfl
  rw [e2, e3] at g
  refine Calls.mono g ?_
  rintro e w' ⟨rfl, rfl⟩
  refine ⟨_, [w.heap.size], rfl, ⟨rfl, rfl, rfl, by simp, fun b hb => heap_alloc_old w _ hb⟩, by simp, by simp, ?_⟩
  refine .ow (F := []) (heap_alloc_new w _) (fun x hx => by obtain ⟨y, _, rfl⟩ := List.mem_map.1 hx; rfl) (by rw [List.length_map]; exact hcl.symm) (by rw [Nat.mul_one, ← hcl, List.take_of_length_le (by simp)]) (by rw [flatS1]; exact ofS1 _) (Nat.le_refl _) (by unfold maxLen; omega) (by simp; omega) (fun v hv => by obtain ⟨y, _, rfl⟩ := List.mem_map.1 hv; rfl)
end Go.Proofs.YthlfefblhlmbgaaDoor

/- Walks: bytes, names, versions. Plain theorems. -/
set_option linter.unusedVariables false
set_option linter.unusedSimpArgs false
namespace Go.Proofs.YthlfefblhlmbgaaDoor
open Go Go.Fw
set_option maxRecDepth 100000
def u8 (c : UInt8) : A := .sc (.int .u8 (c.toNat : Int))
theorem c_isNameByte (c : UInt8) : PCtr PP n_impl_isNameByte [u8 c] (boo (nameB c)) := by
  obtain ⟨Ω, hΩ⟩ : ∃ Ω, Ω = std := ⟨_, rfl⟩
  obtain ⟨r, hr⟩ : ∃ r, r = nameB c := ⟨_, rfl⟩
  rw [← hr]
  unfold nameB letterB digitB at hr
  unfold u8
  generalize (c.toNat : Int) = n at *
  have htab := tab
  have hmo := hmo
  refine PCtr.walk tab hΩ fn_impl_isNameByte rfl ?_
  generalize PP = P at *
  cbv
  repeat' (first | (refine br (fun h => ?_) (fun h => ?_) <;> cbv) | (refine ⟨VC_drawn htab hΩ hmo (by kernel_rfl) ?_⟩; cbv))
  all_goals (refine .of (congrArg boo ?_); subst hΩ; subst hr; rw [Bool.eq_iff_iff]; simp at *; try omega)
theorem c_l1Letter (c : UInt8) : PCtr PP n_spec_l1Letter [u8 c] (boo (letterB c)) := by
  obtain ⟨Ω, hΩ⟩ : ∃ Ω, Ω = std := ⟨_, rfl⟩
  obtain ⟨r, hr⟩ : ∃ r, r = letterB c := ⟨_, rfl⟩
  rw [← hr]
  unfold letterB at hr
  unfold u8
  generalize (c.toNat : Int) = n at *
  have htab := tab
  have hmo := hmo
  refine PCtr.walk tab hΩ fn_spec_l1Letter rfl ?_
  generalize PP = P at *
  cbv
  repeat' (first | (refine br (fun h => ?_) (fun h => ?_) <;> cbv) | (refine ⟨VC_drawn htab hΩ hmo (by kernel_rfl) ?_⟩; cbv))
  all_goals (refine .of (congrArg boo ?_); subst hΩ; subst hr; rw [Bool.eq_iff_iff]; simp at *; try omega)
theorem c_l1Digit (c : UInt8) : PCtr PP n_spec_l1Digit [u8 c] (boo (digitB c)) := by
  obtain ⟨Ω, hΩ⟩ : ∃ Ω, Ω = std := ⟨_, rfl⟩
  obtain ⟨r, hr⟩ : ∃ r, r = digitB c := ⟨_, rfl⟩
  rw [← hr]
  unfold digitB at hr
  unfold u8
  generalize (c.toNat : Int) = n at *
  have htab := tab
  have hmo := hmo
  refine PCtr.walk tab hΩ fn_spec_l1Digit rfl ?_
  generalize PP = P at *
  cbv
  repeat' (first | (refine br (fun h => ?_) (fun h => ?_) <;> cbv) | (refine ⟨VC_drawn htab hΩ hmo (by kernel_rfl) ?_⟩; cbv))
  all_goals (refine .of (congrArg boo ?_); subst hΩ; subst hr; rw [Bool.eq_iff_iff]; simp at *; try omega)
theorem c_l1Name (c : UInt8) : PCtr PP n_spec_l1Name [u8 c] (boo (nameB c)) := by
  obtain ⟨Ω, hΩ⟩ : ∃ Ω, Ω = std := ⟨_, rfl⟩
  obtain ⟨r, hr⟩ : ∃ r, r = nameB c := ⟨_, rfl⟩
  rw [← hr]
  have hc0 := c_l1Letter c
  have hc1 := c_l1Digit c
  unfold nameB at hr
  unfold u8 at *
  generalize (c.toNat : Int) = n at *
  generalize letterB c = b1 at *
  generalize digitB c = b2 at *
  have htab := tab
  have hmo := hmo
  refine PCtr.walk tab hΩ fn_spec_l1Name rfl ?_
  generalize PP = P at *
  cbv
  repeat' (first | (refine br (fun h => ?_) (fun h => ?_) <;> cbv) | (refine ⟨VC_drawn htab hΩ hmo (by kernel_rfl) ?_⟩; cbv) | (refine QCall_pure (k := 3) (hc0) rfl (fits _) rfl ?_; cbv) | (refine QCall_pure (k := 3) (hc1) rfl (fits _) rfl ?_; cbv) | (refine call_pure hΩ 3 (hc0) rfl (fits _) rfl rfl ?_; cbv) | (refine call_pure hΩ 3 (hc1) rfl (fits _) rfl rfl ?_; cbv))
  all_goals (refine .of (congrArg boo ?_); subst hΩ; subst hr; clear hc0 hc1 htab hmo; first | (rw [show b1 = true by assumption]; rfl) | (rw [show b1 = false by assumption, show b2 = true by assumption]; rfl) | (rw [show b1 = false by assumption, show b2 = false by assumption]; rfl))
end Go.Proofs.YthlfefblhlmbgaaDoor

/- Walks: names. Plain theorems. -/
set_option linter.unusedVariables false
set_option linter.unusedSimpArgs false
namespace Go.Proofs.YthlfefblhlmbgaaDoor
open Go Go.Fw
set_option maxRecDepth 100000
theorem ltS {Ω : Opq} (hΩ : Ω = std) {i : Nat} {xs : List UInt8} (h : Ω.cmp .lss (Ω.int i) (Ω.int (Ω.lenS xs)) = true) : i < xs.length := by
  subst hΩ
  have h : (i : Int) < xs.length := lt_t h
  omega
theorem geS {Ω : Opq} (hΩ : Ω = std) {i : Nat} {xs : List UInt8} (h : Ω.cmp .lss (Ω.int i) (Ω.int (Ω.lenS xs)) = false) : xs.length ≤ i := by
  subst hΩ
  have h : (xs.length : Int) ≤ i := lt_f h
  omega
theorem c_implNameFault (s : List UInt8) : PCtr PP n_impl_NameFault [str s] (i64 (nameF s)) := by
  obtain ⟨Ω, hΩ⟩ : ∃ Ω, Ω = std := ⟨_, rfl⟩
  obtain ⟨r, hr⟩ : ∃ r, r = nameF s := ⟨_, rfl⟩
  rw [← hr]
  have hc : ∀ c, PCtr PP n_impl_isNameByte [.sc (.int .u8 (Ω.u8 c))] (boo (nameB c)) := by subst hΩ; exact c_isNameByte
  unfold nameF at hr
  generalize nameB = F at *
  have htab := tab
  have hle : Ω.lenS s = s.length := by subst hΩ; rfl
  refine PCtr.walk tab hΩ fn_impl_NameFault rfl ?_
  generalize PP = P at *
  cbv
  refine br (fun h1 => ?_) (fun h1 => ?_) <;> cbv
  · exact .of (congrArg i64 (by rw [hr, if_pos (by subst hΩ; exact lt_t h1)]))
  rw [if_neg (by subst hΩ; exact Int.not_lt.2 (lt_f h1))] at hr
  refine br (fun h2 => ?_) (fun h2 => ?_) <;> cbv
  · exact .of (congrArg i64 (by rw [hr, if_pos (by subst hΩ; exact gt_t h2)]))
  rw [if_neg (by subst hΩ; exact Int.not_lt.2 (gt_f h2))] at hr
  have hs : s.length ≤ 12 := by subst hΩ; have h2 : (s.length : Int) ≤ 12 := gt_f h2; omega
  obtain ⟨c0, s', hs0⟩ : ∃ c s', s = c :: s' := by
    subst hΩ
    have h1 : (1 : Int) ≤ s.length := lt_f h1
    cases s with
    | nil => simp at h1
    | cons c s' => exact ⟨_, _, rfl⟩
  rw [show s.headD 0 = c0 by rw [hs0]; rfl] at hr
  refine ⟨⟨by decide⟩, c0, by rw [hs0]; rfl, ?_⟩
  cbv
  refine br (fun h3 => ?_) (fun h3 => ?_) <;> cbv
  · exact .of (congrArg i64 (by rw [hr, if_neg (by subst hΩ; have h3 : (c0.toNat : Int) < 97 := lt_t h3; unfold letterB; simp; omega)]))
  refine ⟨⟨by decide⟩, c0, by rw [hs0]; rfl, ?_⟩
  cbv
  refine br (fun h4 => ?_) (fun h4 => ?_) <;> cbv
  · exact .of (congrArg i64 (by rw [hr, if_neg (by subst hΩ; have h4 : 122 < (c0.toNat : Int) := gt_t h4; unfold letterB; simp; omega)]))
  rw [if_pos (by subst hΩ; have h3 : 97 ≤ (c0.toNat : Int) := lt_f h3; have h4 : (c0.toNat : Int) ≤ 122 := gt_f h4; unfold letterB; simp; omega)] at hr
  refine loopX htab hΩ (fun i : Nat => ⟨[(0, .sc (.string (mkS s))), (23, .sc (.int .i64 (Ω.int (Ω.lenS s)))), (24, .sc (.int .i64 (Ω.int i)))], 33, []⟩) (fun i => i ≤ s.length ∧ r = allCode F 5 (s.drop i)) (fun i => s.length - i) 0
    ⟨Nat.zero_le _, hr⟩ (Sbs.mk rfl rfl ⟨rfl, rfl, zeroI hΩ, trivial⟩) ?_
  rintro i ⟨hi, he⟩
  cbv
  refine br (fun h => ?_) (fun h => ?_) <;> cbv
  · replace h := ltS hΩ h
    obtain ⟨c, hcc⟩ := at_of (cs := s) h
    rw [allCode_at _ _ hcc] at he
    refine ⟨⟨nnI hΩ⟩, c, by subst hΩ; exact hcc, ?_⟩
    cbv
    refine call_pure hΩ 3 (hc c) rfl (fits _) rfl rfl ?_
    cbv
    refine br (fun g => ?_) (fun g => ?_) <;> cbv
    · exact .of (congrArg i64 (by rw [he, notT' hΩ g]; rfl))
    · rw [notF' hΩ g] at he
      exact ⟨i + 1, ⟨by omega, he⟩, by omega, Sbs.mk rfl rfl ⟨rfl, rfl, incI hΩ (by omega), trivial⟩⟩
  · replace h := geS hΩ h
    exact .of (congrArg i64 (by rw [he, List.drop_of_length_le h]; rfl))
theorem c_specNameFault (s : List UInt8) : PCtr PP n_spec_NameFault [str s] (i64 (nameF s)) := by
  obtain ⟨Ω, hΩ⟩ : ∃ Ω, Ω = std := ⟨_, rfl⟩
  obtain ⟨r, hr⟩ : ∃ r, r = nameF s := ⟨_, rfl⟩
  rw [← hr]
  have hc : ∀ c, PCtr PP n_spec_l1Name [.sc (.int .u8 (Ω.u8 c))] (boo (nameB c)) := by subst hΩ; exact c_l1Name
  unfold nameF at hr
  generalize nameB = F at *
  have hc2 := c_l1Letter
  have htab := tab
  have hle : Ω.lenS s = s.length := by subst hΩ; rfl
  refine PCtr.walk tab hΩ fn_spec_NameFault rfl ?_
  generalize PP = P at *
  cbv
  refine br (fun h1 => ?_) (fun h1 => ?_) <;> cbv
  · exact .of (congrArg i64 (by rw [hr, if_pos (by subst hΩ; exact lt_t h1)]))
  rw [if_neg (by subst hΩ; exact Int.not_lt.2 (lt_f h1))] at hr
  refine br (fun h2 => ?_) (fun h2 => ?_) <;> cbv
  · exact .of (congrArg i64 (by rw [hr, if_pos (by subst hΩ; exact gt_t h2)]))
  rw [if_neg (by subst hΩ; exact Int.not_lt.2 (gt_f h2))] at hr
  have hs : s.length ≤ 12 := by subst hΩ; have h2 : (s.length : Int) ≤ 12 := gt_f h2; omega
  obtain ⟨c0, s', hs0⟩ : ∃ c s', s = c :: s' := by
    subst hΩ
    have h1 : (1 : Int) ≤ s.length := lt_f h1
    cases s with
    | nil => simp at h1
    | cons c s' => exact ⟨_, _, rfl⟩
  rw [show s.headD 0 = c0 by rw [hs0]; rfl] at hr
  refine ⟨⟨by decide⟩, c0, by rw [hs0]; rfl, ?_⟩
  cbv
  have hl : PCtr P n_spec_l1Letter [.sc (.int .u8 (Ω.u8 c0))] (boo (letterB c0)) := by subst hΩ; exact hc2 c0
  generalize letterB c0 = b at *
  refine call_pure hΩ 3 hl rfl (fits _) rfl rfl ?_
  cbv
  refine br (fun h3 => ?_) (fun h3 => ?_) <;> cbv
  · exact .of (congrArg i64 (by rw [hr, notT' hΩ (b := b) (by subst hΩ; exact h3)]; rfl))
  rw [notF' hΩ (b := b) (by subst hΩ; exact h3), if_pos rfl] at hr
  refine loopX htab hΩ (fun i : Nat => ⟨[(0, .sc (.string (mkS s))), (3, .sc (.int .i64 (Ω.int i)))], 29, []⟩) (fun i => i ≤ s.length ∧ r = allCode F 5 (s.drop i)) (fun i => s.length - i) 0
    ⟨Nat.zero_le _, hr⟩ (Sbs.mk rfl rfl ⟨rfl, zeroI hΩ, trivial⟩) ?_
  rintro i ⟨hi, he⟩
  cbv
  refine br (fun h => ?_) (fun h => ?_) <;> cbv
  · replace h := ltS hΩ h
    obtain ⟨c, hcc⟩ := at_of (cs := s) h
    rw [allCode_at _ _ hcc] at he
    refine ⟨⟨nnI hΩ⟩, c, by subst hΩ; exact hcc, ?_⟩
    cbv
    refine call_pure hΩ 3 (hc c) rfl (fits _) rfl rfl ?_
    cbv
    refine br (fun g => ?_) (fun g => ?_) <;> cbv
    · exact .of (congrArg i64 (by rw [he, notT' hΩ g]; rfl))
    · rw [notF' hΩ g] at he
      exact ⟨i + 1, ⟨by omega, he⟩, by omega, Sbs.mk rfl rfl ⟨rfl, incI hΩ (by omega), trivial⟩⟩
  · replace h := geS hΩ h
    exact .of (congrArg i64 (by rw [he, List.drop_of_length_le h]; rfl))
end Go.Proofs.YthlfefblhlmbgaaDoor

/- Versions are compared as structs. Plain theorems. -/
set_option linter.unusedVariables false
set_option linter.unusedSimpArgs false
namespace Go.Proofs.YthlfefblhlmbgaaDoor
open Go Go.Fw
theorem verFields : PP.fieldsOf 32 = #[⟨"A", 2, 0, false, "", "", 0⟩, ⟨"B", 2, 1, false, "", "", 8⟩, ⟨"C", 2, 2, false, "", "", 16⟩] := by kernel_rfl
theorem verUnder : PP.underlying 32 = some (.struct (PP.fieldsOf 32)) := by kernel_rfl
theorem verIn : PP.stoodInHeld 32 = false := by kernel_rfl
theorem verG : PP.eqGuardType PP.depth 32 = false := by kernel_rfl
theorem agg2 : aggT PP 2 = some false := by kernel_rfl
theorem under2 : PP.underlying 2 = some (.int .i64) := by kernel_rfl
def Ver.vals (v : Ver) : List Value := [.int .i64 v.a, .int .i64 v.b, .int .i64 v.c]
theorem part2 {P : Program} (h : aggT P 2 = some false) {cs : Array Value} {i : Nat} {v : Value} (hv : cs[i]? = some v) (w : World) : (part 2 cs i).run P w = .ok v w := by
  simp [part, run_isAgg h, hv]
theorem ver_equal (a b : Ver) (w : World) : (Op.equal 32 (.agg a.vals.toArray) (.agg b.vals.toArray)).run PP w = .ok (decide (a = b)) w := by
  show (Op.equalIn (9999 + 1) 32 _ _).run PP w = _
  rw [run_equalIn_struct w 9999 32 _ _ verUnder verIn, verFields]
  have hu := under2
  have ha := agg2
  generalize PP = P at *
  have e : decide (a = b) = ((a.a == b.a) && ((a.b == b.b) && (a.c == b.c))) := by
    cases a; cases b
    rw [Bool.eq_iff_iff]; simp
  rw [e]
  have p0 : ∀ (v : Ver), (part 2 v.vals.toArray 0).run P w = .ok (.int .i64 v.a) w := fun v => part2 ha rfl w
  have p1 : ∀ (v : Ver), (part 2 v.vals.toArray 1).run P w = .ok (.int .i64 v.b) w := fun v => part2 ha rfl w
  have p2 : ∀ (v : Ver), (part 2 v.vals.toArray 2).run P w = .ok (.int .i64 v.c) w := fun v => part2 ha rfl w
  have q : ∀ x y : Int, (Op.equalIn 9999 2 (.int .i64 x) (.int .i64 y)).run P w = .ok (x == y) w := fun x y => run_equalIn_int w 9998 2 .i64 .i64 x y hu
  generalize hd : 9999 = d at q ⊢
  simp only [Op.eqFields, Sem.run_bind, Sem.run_ite, p0, p1, p2, q, Result.andThen_ok]
  cases h1 : (a.a == b.a) <;> cases h2 : (a.b == b.b) <;> cases h3 : (a.c == b.c) <;> simp
theorem ver_guard (op : BinOp) (x y : Operand) (a b : Ver) (w : World) : (eqGuard op 32 x y (.agg a.vals.toArray) (.agg b.vals.toArray)).run PP w = .ok () w := by
  have hg := verG
  generalize PP = P at *
  have h1 : ∀ b : Bool, P.eqGuardType P.depth 32 = true → b = false → False := fun b h => by rw [hg] at h; cases h
  unfold eqGuard
  split
  · simp
    intro h; rw [hg] at h; cases h
  · simp
    intro h; rw [hg] at h; cases h
  · simp
theorem ver_neq (a b : Ver) (x y : Operand) (w : World) : (do eqGuard .neq 32 x y (.agg a.vals.toArray) (.agg b.vals.toArray); binOp .neq 32 (.agg a.vals.toArray) (.agg b.vals.toArray) : Sem Value).run PP w = .ok (.bool (!decide (a = b))) w := by
  have h := ver_equal a b w
  have g := ver_guard .neq x y a b w
  generalize PP = P at *
  simp only [Sem.run_bind, g, Result.andThen_ok, binOp, h]
  rfl
theorem ver_eql (a b : Ver) (x y : Operand) (w : World) : (do eqGuard .eql 32 x y (.agg a.vals.toArray) (.agg b.vals.toArray); binOp .eql 32 (.agg a.vals.toArray) (.agg b.vals.toArray) : Sem Value).run PP w = .ok (.bool (decide (a = b))) w := by
  have h := ver_equal a b w
  have g := ver_guard .eql x y a b w
  generalize PP = P at *
  simp only [Sem.run_bind, g, Result.andThen_ok, binOp, h]
  rfl
structure VerEq (P : Program) : Prop where
  neq : ∀ (a b : Ver) (x y : Operand) (w : World), (do eqGuard .neq 32 x y (.agg a.vals.toArray) (.agg b.vals.toArray); binOp .neq 32 (.agg a.vals.toArray) (.agg b.vals.toArray) : Sem Value).run P w = .ok (.bool (!decide (a = b))) w
  eql : ∀ (a b : Ver) (x y : Operand) (w : World), (do eqGuard .eql 32 x y (.agg a.vals.toArray) (.agg b.vals.toArray); binOp .eql 32 (.agg a.vals.toArray) (.agg b.vals.toArray) : Sem Value).run P w = .ok (.bool (decide (a = b))) w
theorem verEq : VerEq PP := ⟨ver_neq, ver_eql⟩
end Go.Proofs.YthlfefblhlmbgaaDoor

/- Walks: terms. Plain theorems. -/
set_option linter.unusedVariables false
set_option linter.unusedSimpArgs false
namespace Go.Proofs.YthlfefblhlmbgaaDoor
open Go Go.Fw
set_option maxRecDepth 100000
def idxFrom {α : Type} (p : α → Bool) : Nat → List α → Int
  | _, [] => -1
  | i, x :: xs => if p x then (i : Int) else idxFrom p (i + 1) xs
def idx {α : Type} (p : α → Bool) (l : List α) : Int := idxFrom p 0 l
theorem idxFrom_at {α : Type} (p : α → Bool) {cs : List α} {i : Nat} {c : α} (h : cs[i]? = some c) : idxFrom p i (cs.drop i) = if p c then (i : Int) else idxFrom p (i + 1) (cs.drop (i + 1)) := by
  obtain ⟨h1, h2⟩ := List.getElem?_eq_some_iff.1 h
  rw [List.drop_eq_getElem_cons h1, h2, idxFrom]
end Go.Proofs.YthlfefblhlmbgaaDoor

/- Walks: function values over slices. Plain theorems. -/
set_option linter.unusedVariables false
set_option linter.unusedSimpArgs false
namespace Go.Proofs.YthlfefblhlmbgaaDoor
open Go Go.Fw
set_option maxRecDepth 100000
theorem mapO_append (f : A → Option A) {xs ys xs' ys' : List A} (h1 : mapO f xs = some xs') (h2 : mapO f ys = some ys') : mapO f (xs ++ ys) = some (xs' ++ ys') := by
  induction xs generalizing xs' with
  | nil => simp only [mapO, Option.some.injEq] at h1; subst h1; exact h2
  | cons x xs ih =>
    simp only [mapO, List.cons_append] at h1 ⊢
    cases hx : f x with
    | none => rw [hx] at h1; simp at h1
    | some y =>
      rw [hx] at h1
      cases hxs : mapO f xs with
      | none => rw [hxs] at h1; simp at h1
      | some us =>
        rw [hxs] at h1
        simp only [Option.some.injEq] at h1
        subst h1
        rw [ih hxs]; rfl
theorem ro_cloA {Ω : Opq} (hΩ : Ω = std) {S : State} {k g : Nat} {xs caps xs' caps' : List A} (h1 : mapO (roO S k) xs = some xs') (h2 : mapO (roO S k) caps = some caps') : mapO (roO S k) (Ω.cloA g xs caps) = some (Ω.cloA g xs' caps') := by
  subst hΩ
  show mapO _ (Fw.cloA g xs caps) = some (Fw.cloA g xs' caps')
  unfold Fw.cloA
  split
  · exact mapO_append _ h1 h2
  · exact mapO_append _ h2 h1
theorem roO_clo (S : State) (k g : Nat) (xs : List A) : roO S (k + 1) (.clo g xs) = (mapO (roO S k) xs).map (A.clo g) := rfl
theorem ro_clo2 {S : State} {k g : Nat} {x x' : A} {caps caps' : List A} (h1 : roO S (k + 1) x = some x') (h2 : mapO (roO S k) caps = some caps') : mapO (roO S (k + 1)) [x, .clo g caps] = some [x', .clo g caps'] := by
  simp [mapO, roO_clo, h1, h2]
/-- What a function value with these captured values answers. -/
structure CloB (P : Program) {α : Type} (enc : α → A) (l : List α) (g : Nat) (caps : List A) (p : α → Bool) : Prop where
  ro : ∀ S k, mapO (roO S (k + 4)) caps = some caps
  no : caps.all noOwn = true
  kl : ∀ r, killL r caps = caps
  run : ∀ s ∈ l, PCtr P (Fw.cloN g) (Fw.cloA g [enc s] caps) (boo (p s))
theorem c_IndexFuncS (l : List (List UInt8)) (hl : l.length ≤ 4611686018427387904) (g : Nat) (caps : List A) (p : List UInt8 → Bool) (hf : CloB PP (str) l g caps p) : PCtr PP n_slices_IndexFunc_L_string_string [.sl false 1 (l.map (str)), .clo g caps] (i64 (idx p l)) := by
  obtain ⟨Ω, hΩ⟩ : ∃ Ω, Ω = std := ⟨_, rfl⟩
  obtain ⟨r, hr⟩ : ∃ r, r = idx p l := ⟨_, rfl⟩
  rw [← hr]
  obtain ⟨xs, hxs⟩ : ∃ xs, xs = l.map (str) := ⟨_, rfl⟩
  have hlen : xs.length = l.length := by rw [hxs, List.length_map]
  rw [← hxs]
  have hro := hf.ro
  have hrun : ∀ s ∈ l, PCtr PP (Ω.cloN g) (Ω.cloA g [str s] caps) (boo (p s)) := by subst hΩ; exact hf.run
  have htab := tab
  have hmo := hmo
  have hve := verEq
  refine PCtr.walk tab hΩ fn_slices_IndexFunc_L_string_string rfl ?_
  generalize PP = P at *
  cbv
  refine loopX htab hΩ (fun i : Nat => ⟨[(0, .sl false 1 xs), (1, .clo g caps), (7, .sc (.int .i64 (Ω.int (Ω.len xs)))), (8, .sc (.int .i64 (Ω.int i)))], 19, []⟩) (fun i => i ≤ l.length ∧ r = idxFrom p i (l.drop i)) (fun i => l.length - i) 0
    ⟨Nat.zero_le _, hr⟩ (Sbs.mk rfl rfl ⟨rfl, rfl, rfl, zeroI hΩ, trivial⟩) ?_
  rintro i ⟨hi, he⟩
  cbv
  refine br (fun h => ?_) (fun h => ?_) <;> cbv
  · replace h := ltI hΩ h
    obtain ⟨c, hcc⟩ := at_of (cs := l) (by omega : i < l.length)
    rw [idxFrom_at _ hcc] at he
    refine ⟨⟨nnI hΩ⟩, _, rdI hΩ hxs hcc, ?_⟩
    cbv
    have h1 := hrun c (List.mem_of_getElem? hcc)

    refine call_pure hΩ 4 h1 (ro_cloA hΩ rfl (hro _ 0)) (fits _) rfl rfl ?_
    cbv
    refine br (fun g => ?_) (fun g => ?_) <;> cbv
    · exact .of (congrArg i64 (by rw [he, if_pos g]; subst hΩ; rfl))
    · rw [if_neg (by rw [show p c = false from g]; simp)] at he
      exact ⟨i + 1, ⟨by omega, he⟩, by omega, Sbs.mk rfl rfl ⟨rfl, rfl, rfl, incI hΩ (by omega), trivial⟩⟩
  · replace h := geI hΩ h
    exact .of (congrArg i64 (by rw [he, List.drop_of_length_le (by omega)]; rfl))
end Go.Proofs.YthlfefblhlmbgaaDoor

/- Walks: what a package gives. Plain theorems. -/
set_option linter.unusedVariables false
set_option linter.unusedSimpArgs false
namespace Go.Proofs.YthlfefblhlmbgaaDoor
open Go Go.Fw
set_option maxRecDepth 100000
theorem roV {S : State} {k r len n : Nat} {ys : List A} (hr : Fw.rowAt S.rows r = some ⟨n, ys, false⟩) (hl : len = ys.length) (hf : ys.map frz = ys) : roO S (k + 1) (.vw r 0 len) = some (.sl false n ys) := by
  simp only [roO, hr]
  rw [hl, List.drop_zero, List.take_length, hf]
  rfl
theorem frzStr (l : List (List UInt8)) : (l.map str).map frz = l.map str := by
  rw [List.map_map]; exact List.map_congr_left fun c _ => rfl
end Go.Proofs.YthlfefblhlmbgaaDoor

/- Walks: sets by a function value; who is barred. Plain theorems. -/
set_option linter.unusedVariables false
set_option linter.unusedSimpArgs false
namespace Go.Proofs.YthlfefblhlmbgaaDoor
open Go Go.Fw
set_option maxRecDepth 100000
theorem take_set_add {ys : List A} {i : Nat} {z : A} (h : i < ys.length) : (ys.set i z).take (i + 1) = ys.take i ++ [z] := by
  rw [List.take_add_one, List.getElem?_set_self h, List.take_set_of_le (Nat.le_refl _)]; rfl
end Go.Proofs.YthlfefblhlmbgaaDoor

/- Sets with a code. Plain theorems. -/
set_option linter.unusedVariables false
set_option linter.unusedSimpArgs false
namespace Go.Proofs.YthlfefblhlmbgaaDoor
open Go Go.Fw
set_option maxRecDepth 100000
def Pck.zero : Pck := ⟨[], Ver.zero, 0, [], [], []⟩
end Go.Proofs.YthlfefblhlmbgaaDoor

/- Helpers of the walks. Plain theorems. -/
set_option linter.unusedVariables false
set_option linter.unusedSimpArgs false
namespace Go.Proofs.YthlfefblhlmbgaaDoor
open Go Go.Fw
set_option maxRecDepth 100000
def fill {α : Type} (f : α → A) (z : A) (cs : List α) (i : Nat) : List A := (cs.take i).map f ++ List.replicate (cs.length - i) z
theorem takeAll {Ω : Opq} (hΩ : Ω = std) (xs : List A) : Ω.take (Ω.len xs) xs = xs := by subst hΩ; exact List.take_length
theorem roFAll {n : Nat} {xs : List A} (h : ∀ x ∈ xs, roFree x = true) : roFree (.sl true n xs) = true := by rw [roFree_sl, Bool.true_and, List.all_eq_true]; exact h
theorem fitsE {k : Nat} {a b : List A} (h : a = b) : fitA.fitL k a b := h ▸ fits a
/-- ys is xs but for what stands up to i. -/
structure Like (xs : List A) (i : Nat) (ys : List A) : Prop where
  len : ys.length = xs.length
  at' : ∀ q, i < q → ys[q]? = xs[q]?
theorem Like.set {Ω : Opq} (hΩ : Ω = std) {xs ys : List A} {i : Nat} {z : A} (h : Like xs i ys) : Like xs i (Ω.set ys (Ω.plus 0 (Ω.nat (Ω.int i))) z) := by
  subst hΩ
  show Like xs i (ys.set (0 + i) z)
  rw [Nat.zero_add]
  exact ⟨by simpa using h.len, fun q hq => by rw [List.getElem?_set_ne (by omega)]; exact h.at' q hq⟩
theorem neSame {Ω : Opq} (hΩ : Ω = std) {x y : Int} (h : Ω.cmp .neq x y = true) (e : x = y) : False := by subst hΩ; exact ne_t h e
theorem mutVw {S : State} {r len n : Nat} {ys zs : List A} (hr : Fw.rowAt S.rows r = some ⟨n, ys, false⟩) (hl : len = ys.length) (hl' : zs.length = ys.length) : Mut S (.vw r 0 len) (.sl true n ys) (.sl true n zs) [(r, zs)] := .row hr rfl hl hl'
theorem rdJ {Ω : Opq} (hΩ : Ω = std) {i : Nat} {xs : List A} {z : A} (h : xs[i]? = some z) : xs[(Ω.int i).toNat]? = some z := by subst hΩ; exact h
theorem takeI {Ω : Opq} (hΩ : Ω = std) {i : Nat} {xs : List A} (h : xs.length = i) : Ω.take i xs = xs := by subst hΩ; subst h; exact List.take_length
theorem ro_vw {S : State} {k r len n : Nat} {ys zs : List A} (hr : Fw.rowAt S.rows r = some ⟨n, ys, false⟩) (hl : len = ys.length) (hf : ys.map frz = zs) : roO S (k + 1) (.vw r 0 len) = some (.sl false n zs) := by
  simp only [roO, hr]
  rw [hl, List.drop_zero, List.take_length, hf]
  rfl
theorem mapO1 {f : A → Option A} {x x' : A} (h : f x = some x') : mapO f [x] = some [x'] := by simp [mapO, h]
theorem mapO2 {f : A → Option A} {x x' y y' : A} (h : f x = some x') (h2 : f y = some y') : mapO f [x, y] = some [x', y'] := by simp [mapO, h, h2]
theorem mapO3 {f : A → Option A} {x x' y y' z z' : A} (h : f x = some x') (h2 : f y = some y') (h3 : f z = some z') : mapO f [x, y, z] = some [x', y', z'] := by simp [mapO, h, h2, h3]
theorem ro_agg3 {S : State} {k : Nat} {a b c c' : A} (ha : roO S (k + 1) a = some a) (hb : roO S (k + 1) b = some b) (hc : roO S (k + 1) c = some c') : roO S (k + 2) (.agg [a, b, c]) = some (.agg [a, b, c']) := by
  show (mapO (roO S (k + 1)) [a, b, c]).map A.agg = _
  rw [mapO3 ha hb hc]; rfl
end Go.Proofs.YthlfefblhlmbgaaDoor

/- Branches told as facts on numbers. Plain theorems. -/
set_option linter.unusedVariables false
namespace Go.Proofs.YthlfefblhlmbgaaDoor
open Go Go.Fw
theorem iteA {Ω : Opq} (hΩ : Ω = std) {x y c : Bool} (h : Ω.ite true x y = c) : x = c := by subst hΩ; exact h
theorem iteB {Ω : Opq} (hΩ : Ω = std) {x y c : Bool} (h : Ω.ite false x y = c) : y = c := by subst hΩ; exact h
theorem ltZt {Ω : Opq} (hΩ : Ω = std) {x y : Int} (h : Ω.cmp .lss x y = true) : x < y := by subst hΩ; exact lt_t h
theorem ltZf {Ω : Opq} (hΩ : Ω = std) {x y : Int} (h : Ω.cmp .lss x y = false) : y ≤ x := by subst hΩ; exact lt_f h
theorem leZt {Ω : Opq} (hΩ : Ω = std) {x y : Int} (h : Ω.cmp .leq x y = true) : x ≤ y := by subst hΩ; exact le_t h
theorem leZf {Ω : Opq} (hΩ : Ω = std) {x y : Int} (h : Ω.cmp .leq x y = false) : y < x := by subst hΩ; exact le_f h
theorem gtZt {Ω : Opq} (hΩ : Ω = std) {x y : Int} (h : Ω.cmp .gtr x y = true) : y < x := by subst hΩ; exact gt_t h
theorem gtZf {Ω : Opq} (hΩ : Ω = std) {x y : Int} (h : Ω.cmp .gtr x y = false) : x ≤ y := by subst hΩ; exact gt_f h
theorem eqZt {Ω : Opq} (hΩ : Ω = std) {x y : Int} (h : Ω.cmp .eql x y = true) : x = y := by subst hΩ; exact eq_t h
theorem eqZf {Ω : Opq} (hΩ : Ω = std) {x y : Int} (h : Ω.cmp .eql x y = false) : x ≠ y := by subst hΩ; exact eq_f h
theorem neZt {Ω : Opq} (hΩ : Ω = std) {x y : Int} (h : Ω.cmp .neq x y = true) : x ≠ y := by subst hΩ; exact ne_t h
theorem neZf {Ω : Opq} (hΩ : Ω = std) {x y : Int} (h : Ω.cmp .neq x y = false) : x = y := by subst hΩ; exact ne_f h
end Go.Proofs.YthlfefblhlmbgaaDoor

/- Walks: texts cut into pieces, lines, words. Plain theorems. -/
set_option linter.unusedVariables false
set_option linter.unusedSimpArgs false
namespace Go.Proofs.YthlfefblhlmbgaaDoor
open Go Go.Fw
set_option maxRecDepth 100000
theorem c_Split (c : UInt8) (s : List UInt8) (hs : s.length ≤ 1048576) : PCtr PP n_strings_Split [str s, str [c]] (.sl true 1 ((cutAt c s).map str)) := by
  obtain ⟨Ω, hΩ⟩ : ∃ Ω, Ω = std := ⟨_, rfl⟩
  have hc := c_genSplit c s hs
  have rs : roFree (.sl true 1 ((cutAt c s).map str)) = true := roFAll fun x hx => by obtain ⟨c, _, rfl⟩ := List.mem_map.1 hx; rfl
  have htab := tab
  generalize (cutAt c s).map str = ys at *
  refine PCtr.walk tab hΩ fn_strings_Split rfl ?_
  generalize PP = P at *
  cbv
  refine call_pure hΩ 3 hc rfl (fits _) rs rfl ?_
  cbv
  exact ⟨⟨rfl, by subst hΩ; exact Nat.le_refl _⟩, .of (congrArg (A.sl true 1) (takeAll hΩ _))⟩
/-- What is left to cut, behind a piece begun. -/
def cutP (c : UInt8) (pre xs : List UInt8) : List (List UInt8) :=
  match cutAt c xs with
  | [] => [pre]
  | y :: ys => (pre ++ y) :: ys
theorem cutP_nil (c : UInt8) (pre : List UInt8) : cutP c pre [] = [pre] := by simp [cutP, cutAt]
theorem cutP_eq (c : UInt8) (pre xs : List UInt8) : cutP c pre (c :: xs) = pre :: cutAt c xs := by simp [cutP, cutAt]
theorem cutP_ne {c x : UInt8} (pre xs : List UInt8) (h : x ≠ c) : cutP c pre (x :: xs) = cutP c (pre ++ [x]) xs := by
  have hn := cutAt_ne (c := c) (s := xs)
  unfold cutP
  simp only [cutAt, if_neg h]
  cases hc : cutAt c xs with
  | nil => exact absurd hc hn
  | cons y ys => simp
theorem cutP_zero (c : UInt8) (xs : List UInt8) : cutP c [] xs = cutAt c xs := by
  have hn := cutAt_ne (c := c) (s := xs)
  unfold cutP
  cases hc : cutAt c xs with
  | nil => exact absurd hc hn
  | cons y ys => simp
theorem c_l1Parts (c : UInt8) (s : List UInt8) (hs : s.length ≤ 1048576) : PCtr PP n_spec_l1Parts [str s, u8 c] (.sl true 1 ((cutAt c s).map str)) := by
  obtain ⟨Ω, hΩ⟩ : ∃ Ω, Ω = std := ⟨_, rfl⟩
  obtain ⟨F, hF⟩ : ∃ F : List (List UInt8) → List A, F = fun l => l.map str := ⟨_, rfl⟩
  have hFm : ∀ t : List (List UInt8), t.map str = F t := fun t => by rw [hF]
  have hlen : ∀ t, (F t).length = t.length := fun t => by rw [hF, List.length_map]
  have hap : ∀ t x, Ω.app (Ω.take (Ω.len (F t)) (F t)) [str x] = F (t ++ [x]) := fun t x => by rw [takeAll hΩ, ← hFm, ← hFm, List.map_append]; subst hΩ; rfl
  have hpl : ∀ t x, Ω.plus (Ω.len (F t)) (Ω.len [str x]) = Ω.len (F (t ++ [x])) := fun t x => by rw [← hap, takeAll hΩ]; subst hΩ; exact (List.length_append).symm
  have hF0 : F [] = [] := by rw [hF]; rfl
  rw [hFm]
  obtain ⟨r, hr⟩ : ∃ r, r = cutAt c s := ⟨_, rfl⟩
  rw [← hr]
  obtain ⟨n, hn⟩ : ∃ n, n = s.length := ⟨_, rfl⟩
  have hls : Ω.int (Ω.lenS s) = Ω.int n := by subst hΩ; rw [hn]; rfl
  have htab := tab
  refine PCtr.walk tab hΩ fn_spec_l1Parts rfl ?_
  generalize PP = P at *
  cbv
  refine loopX htab hΩ (fun i : Nat × Nat × List (List UInt8) => ⟨[(0, str s), (1, u8 c), (5, .vw 0 0 (Ω.len (F i.2.2))), (6, i64 (Ω.int i.2.1)), (7, i64 (Ω.int i.1))], 36, [some ⟨1, F i.2.2, false⟩]⟩)
    (fun i => i.1 ≤ n + 1 ∧ i.2.2.length ≤ i.1 ∧ (i.1 ≤ n → i.2.1 ≤ i.1 ∧ r = i.2.2 ++ cutP c ((s.take i.1).drop i.2.1) (s.drop i.1)) ∧ (i.1 = n + 1 → r = i.2.2)) (fun i => n + 1 - i.1) (0, 0, [])
    ⟨Nat.zero_le _, Nat.zero_le _, fun _ => ⟨Nat.le_refl _, by rw [hr]; exact (cutP_zero c s).symm⟩, fun h => by dsimp only at h; omega⟩
    (Sbs.mk rfl (by dsimp only; rw [hF0]) ⟨rfl, rfl, by dsimp only; rw [hF0]; subst hΩ; rfl, zeroI hΩ, zeroI hΩ, trivial⟩) ?_
  rintro ⟨i, f, o⟩ ⟨hi, ho, hc1, hc2⟩
  dsimp only at hi ho hc1 hc2
  have hol := hlen o
  have hlo : Ω.len (F o) = (F o).length := by subst hΩ; rfl
  have hle : Ω.len (F o) ≤ (F o).length := by rw [hlo]; exact Nat.le_refl _
  have htk : Ω.take (Ω.len (F o)) (F o) = F o := takeAll hΩ _
  obtain ⟨pc, hpcd⟩ : ∃ pc, pc = (s.take i).drop f := ⟨_, rfl⟩
  have hpc : Ω.segS (Ω.nat (Ω.int f)) (Ω.nat (Ω.int i)) s = pc := by subst hΩ; exact hpcd.symm
  have hap0 := hap o pc
  have hpl0 := hpl o pc
  have hni : Ω.nat (Ω.int i) = i := by subst hΩ; rfl
  have hnf : Ω.nat (Ω.int f) = f := by subst hΩ; rfl
  rw [← hpcd] at hc1
  dsimp only
  cbv
  refine br (fun h => ?_) (fun h => ?_) <;> cbv
  · replace h : i ≤ n := by have h := leZt hΩ h; subst hΩ; have h : (i : Int) ≤ s.length := h; omega
    obtain ⟨hfi, hri⟩ := hc1 h
    have app : ∀ {X : Prop}, r = (o ++ [pc]) ++ (if i = n then [] else cutP c ((s.take (i + 1)).drop (i + 1)) (s.drop (i + 1))) →
        ((i + 1 ≤ n + 1) ∧ (o ++ [pc]).length ≤ i + 1 ∧ (i + 1 ≤ n → i + 1 ≤ i + 1 ∧ r = (o ++ [pc]) ++ cutP c ((s.take (i + 1)).drop (i + 1)) (s.drop (i + 1))) ∧ (i + 1 = n + 1 → r = o ++ [pc])) := fun hh =>
      ⟨by omega, by simp; omega, fun h2 => ⟨Nat.le_refl _, by rw [if_neg (by omega)] at hh; exact hh⟩, fun h2 => by rw [if_pos (by omega), List.append_nil] at hh; exact hh⟩
    have fin : r = (o ++ [pc]) ++ (if i = n then [] else cutP c ((s.take (i + 1)).drop (i + 1)) (s.drop (i + 1))) → _ := app (X := True)
    refine br (fun q => ?_) (fun q => ?_) <;> cbv
    · have q := eqZt hΩ q
      have q : i = n := by subst hΩ; have q : (i : Int) = s.length := q; omega
      have hd : s.drop i = [] := List.drop_of_length_le (by omega)
      rw [hd, cutP_nil] at hri
      exact ⟨⟨nnI hΩ, nnI hΩ, by show Ω.nat (Ω.int f) ≤ Ω.nat (Ω.int i); omega, by show Ω.nat (Ω.int i) ≤ s.length; omega⟩, ⟨rfl, okAll rfl, by show (Ω.len (F o) + 1) * 16 ≤ 140737488355328; omega, by show Ω.len (F o) + 1 ≤ 9223372036854775807; omega⟩,
        (i + 1, i + 1, o ++ [pc]), fin (by rw [if_pos q, List.append_nil]; exact hri), by show n + 1 - (i + 1) < n + 1 - i; omega, (Sbs.cut 1 rfl).trans (Sbs.mk rfl (by show [some (Row.mk 1 (Ω.app (Ω.take (Ω.len (F o)) (F o)) [str (Ω.segS (Ω.nat (Ω.int f)) (Ω.nat (Ω.int i)) s)]) false)] = _; rw [hpc, hap0]) ⟨rfl, rfl, congrArg (A.vw 0 0) (by show Ω.plus (Ω.len (F o)) (Ω.len [str (Ω.segS (Ω.nat (Ω.int f)) (Ω.nat (Ω.int i)) s)]) = _; rw [hpc]; exact hpl0), incI hΩ (by omega), incI hΩ (by omega), trivial⟩)⟩
    · have q := eqZf hΩ q
      have q : i < n := by
        have : i ≠ n := fun e => q (by subst hΩ; show (i : Int) = s.length; omega)
        omega
      obtain ⟨x, hx⟩ := at_of (cs := s) (by omega : i < _)
      have hdx : s.drop i = x :: s.drop (i + 1) := by
        obtain ⟨h1, rfl⟩ := List.getElem?_eq_some_iff.1 hx
        exact List.drop_eq_getElem_cons h1
      rw [hdx] at hri
      refine ⟨⟨nnI hΩ⟩, x, by subst hΩ; exact hx, ?_⟩
      cbv
      refine br (fun k => ?_) (fun k => ?_) <;> cbv
      · have k : x = c := by
          have k := eqZt hΩ (iteB hΩ k)
          subst hΩ
          exact UInt8.toNat_inj.1 (Int.ofNat_inj.1 k)
        subst k
        rw [cutP_eq] at hri
        have he : (s.take (i + 1)).drop (i + 1) = [] := List.drop_of_length_le (by rw [List.length_take]; omega)
        exact ⟨⟨nnI hΩ, nnI hΩ, by show Ω.nat (Ω.int f) ≤ Ω.nat (Ω.int i); omega, by show Ω.nat (Ω.int i) ≤ s.length; omega⟩, ⟨rfl, okAll rfl, by show (Ω.len (F o) + 1) * 16 ≤ 140737488355328; omega, by show Ω.len (F o) + 1 ≤ 9223372036854775807; omega⟩,
          (i + 1, i + 1, o ++ [pc]), fin (by rw [if_neg (by omega), he, cutP_zero, List.append_assoc]; exact hri), by show n + 1 - (i + 1) < n + 1 - i; omega, (Sbs.cut 1 rfl).trans (Sbs.mk rfl (by show [some (Row.mk 1 (Ω.app (Ω.take (Ω.len (F o)) (F o)) [str (Ω.segS (Ω.nat (Ω.int f)) (Ω.nat (Ω.int i)) s)]) false)] = _; rw [hpc, hap0]) ⟨rfl, rfl, congrArg (A.vw 0 0) (by show Ω.plus (Ω.len (F o)) (Ω.len [str (Ω.segS (Ω.nat (Ω.int f)) (Ω.nat (Ω.int i)) s)]) = _; rw [hpc]; exact hpl0), incI hΩ (by omega), incI hΩ (by omega), trivial⟩)⟩
      · have k : x ≠ c := by
          have k := eqZf hΩ (iteB hΩ k)
          subst hΩ
          exact fun e => k (by subst e; rfl)
        rw [cutP_ne _ _ k] at hri
        have he : (s.take (i + 1)).drop f = pc ++ [x] := by
          rw [hpcd, List.take_add_one, hx]
          rw [List.drop_append_of_le_length (by rw [List.length_take]; omega)]
          rfl
        exact ⟨(i + 1, f, o), ⟨by show i + 1 ≤ n + 1; omega, by show o.length ≤ i + 1; omega, fun _ => ⟨by show f ≤ i + 1; omega, by show r = o ++ cutP c ((s.take (i + 1)).drop f) (s.drop (i + 1)); rw [he]; exact hri⟩, fun e => by have e : i + 1 = n + 1 := e; omega⟩, by show n + 1 - (i + 1) < n + 1 - i; omega, Sbs.mk rfl rfl ⟨rfl, rfl, rfl, rfl, incI hΩ (by omega), trivial⟩⟩
  · replace h : n < i := by have h := leZf hΩ h; subst hΩ; have h : (s.length : Int) < i := h; omega
    have := hc2 (by omega)
    exact ⟨⟨rfl, hle⟩, .of (congrArg (A.sl true 1) (htk.trans (by rw [this])))⟩
end Go.Proofs.YthlfefblhlmbgaaDoor

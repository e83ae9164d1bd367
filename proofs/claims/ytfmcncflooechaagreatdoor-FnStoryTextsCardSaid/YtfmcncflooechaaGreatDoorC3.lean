/- Contracts of functions that write into what they are handed, from a walk. Plain theorems, no condition. -/
import Derived.Test.YtfmcncflooechaaGreatDoorC2
import Derived.Test.YtfmcncflooechaaGreatDoorProg
import Derived.Laws.StructEq
import Derived.OrdersHeld
set_option linter.unusedVariables false
set_option linter.unusedSimpArgs false
namespace Go.Fw

structure FitLX (us ys : List A) : Prop where
  h : ∃ k, fitA.fitL k us ys
theorem FitLX.same {xs : List A} : FitLX xs xs := ⟨0, fits xs⟩
theorem FitLX.of {xs ys : List A} (h : xs = ys) : FitLX xs ys := h ▸ FitLX.same
def entryM (k N : Nat) (xs : List A) : State :=
  ⟨entryT 0 (rootA.rootL k ⟨[], N, []⟩ xs).1 ++ entryT N (rootA.rootL k ⟨[], N, []⟩ xs).1, N, (rootA.rootL k ⟨[], N, []⟩ xs).2.rows⟩
def vOutM (Ω : Opq) (T : Nat → Option TI) (N : Nat) (S : State) (rs : List ResultVar) (x : A) (outs : List A) : Prop :=
  if S.N = N then vRes T S rs fun zs => if (flat (zs ++ (List.range outs.length).map fun i => lk S.t (S.N + i))).all okCell then
    vStash Ω (flat (zs ++ (List.range outs.length).map fun i => lk S.t (S.N + i))).length S (flat (zs ++ (List.range outs.length).map fun i => lk S.t (S.N + i))) fun ys _ _ =>
      FitX (oneA ((regroup (zs ++ (List.range outs.length).map fun i => lk S.t (S.N + i)) ys).take zs.length)) x ∧ FitLX ((regroup (zs ++ (List.range outs.length).map fun i => lk S.t (S.N + i)) ys).drop zs.length) outs else False else False
def outM (Ω : Opq) (T : Nat → Option TI) (N : Nat) (rs : List ResultVar) (x : A) (outs : List A) : Exit → State → Prop
  | .normal, S | .ret, S => vOutM Ω T N S rs x outs
  | _, _ => False
def vOutX (Ω : Opq) (T : Nat → Option TI) (N : Nat) (S : State) (rs : List ResultVar) (n : Nat) (R : A → List A → Prop) : Prop :=
  if S.N = N then vRes T S rs fun zs => if (flat (zs ++ (List.range n).map fun i => lk S.t (S.N + i))).all okCell then
    vStash Ω (flat (zs ++ (List.range n).map fun i => lk S.t (S.N + i))).length S (flat (zs ++ (List.range n).map fun i => lk S.t (S.N + i))) fun ys _ _ =>
      ∃ x outs, FitX (oneA ((regroup (zs ++ (List.range n).map fun i => lk S.t (S.N + i)) ys).take zs.length)) x ∧ FitLX ((regroup (zs ++ (List.range n).map fun i => lk S.t (S.N + i)) ys).drop zs.length) outs ∧ R x outs ∧ outs.length = n else False else False
theorem vRes_mono {T : Nat → Option TI} {S : State} : ∀ {rs : List ResultVar} {k k' : List A → Prop}, (∀ z, k z → k' z) → vRes T S rs k → vRes T S rs k'
  | [], k, k', hk, h => hk _ h
  | .tmp t :: rs, k, k', hk, h => vRes_mono (rs := rs) (fun z => hk _) h
  | .cell a t :: rs, k, k', hk, h => by
    unfold vRes at h ⊢
    split at h <;> try exact h.elim
    split at h <;> try exact h.elim
    split at h <;> try exact h.elim
    unfold vCell at h ⊢
    simp only at h ⊢
    split at h
    · rename_i hag
      rw [if_pos hag]
      split at h <;> try exact h.elim
      rename_i h1
      rw [if_pos h1]
      split at h <;> try exact h.elim
      rename_i h2
      rw [if_pos h2]
      exact vRes_mono (rs := rs) (fun z => hk _) h
    · rename_i hag
      rw [if_neg hag]
      split at h <;> try exact h.elim
      split at h <;> try exact h.elim
      rename_i h2
      rw [if_pos h2]
      exact vRes_mono (rs := rs) (fun z => hk _) h
theorem vStash_mono {Ω : Opq} : ∀ (n : Nat) (xs : List A) (S : State) {k k' : List A → State → List Nat → Prop}, (∀ a b c, k a b c → k' a b c) → vStash Ω n S xs k → vStash Ω n S xs k'
  | 0, [], S, k, k', hk, h => by unfold vStash at h ⊢; exact hk _ _ _ h
  | n + 1, [], S, k, k', hk, h => by unfold vStash at h ⊢; exact hk _ _ _ h
  | 0, _ :: _, S, k, k', hk, h => by simp [vStash] at h
  | n + 1, x :: xs, S, k, k', hk, h => by
    unfold vStash at h ⊢
    split at h
    · split at h <;> try exact h.elim
      split at h <;> try exact h.elim
      rename_i h1
      try simp only at h ⊢
      rw [if_neg h1]
      exact ⟨h.1, vStash_mono n _ _ (fun a b c => hk _ _ _) h.2⟩
    · split at h <;> try exact h.elim
      split at h <;> try exact h.elim
      rename_i h1
      try simp only at h ⊢
      rw [if_pos h1]
      exact vStash_mono n _ _ (fun a b c => hk _ _ _) h
    · split at h <;> try exact h.elim
      rename_i h1
      try simp only at h ⊢
      rw [if_pos h1]
      exact vStash_mono n _ _ (fun a b c => hk _ _ _) h
theorem vOutM_X {Ω : Opq} {T : Nat → Option TI} {N : Nat} {S : State} {rs : List ResultVar} {x : A} {outs : List A} (h : vOutM Ω T N S rs x outs) {R : A → List A → Prop} (hR : R x outs) : vOutX Ω T N S rs outs.length R := by
  unfold vOutM at h
  unfold vOutX
  split at h <;> try exact h.elim
  rename_i h1
  rw [if_pos h1]
  refine vRes_mono (fun z hz => ?_) h
  split at hz <;> try exact hz.elim
  rename_i h2
  rw [if_pos h2]
  exact vStash_mono _ _ _ (fun a b c h => ⟨x, outs, h.1, h.2, hR, rfl⟩) hz
def outX (Ω : Opq) (T : Nat → Option TI) (N : Nat) (rs : List ResultVar) (n : Nat) (R : A → List A → Prop) : Exit → State → Prop
  | .normal, S | .ret, S => vOutX Ω T N S rs n R
  | _, _ => False
theorem entryT_lk : ∀ (xs : List A) (t : List (Nat × A)) (i j : Nat), lk (entryT i xs ++ t) j = if i ≤ j ∧ j < i + xs.length then xs.getD (j - i) .un else lk t j
  | [], t, i, j => by simp [entryT]; omega
  | x :: xs, t, i, j => by
    simp only [entryT, List.cons_append, lk, entryT_lk xs t (i + 1) j]
    by_cases h : i = j
    · subst h; simp
    · rw [if_neg h]
      by_cases h2 : i + 1 ≤ j ∧ j < i + 1 + xs.length
      · obtain ⟨d, hd⟩ : ∃ d, j - i = d + 1 := ⟨j - i - 1, by omega⟩
        have : j - (i + 1) = d := by omega
        rw [if_pos h2, if_pos ⟨by omega, by simp; omega⟩, hd, this]; simp
      · rw [if_neg h2, if_neg (by simp; omega)]
section
variable {P : Program} {T : Nat → Option TI}
theorem TRelL.get' {G : Nat → Prop} {w : World} {rows : List (Option Row)} {gs : Gh} {xs : List A} {vs : List Value} (h : TRelL w G rows gs xs vs []) (i : Nat) (hi : i < xs.length) : TRel w G rows gs (xs.getD i .un) (vs.getD i undef) [] := by
  obtain ⟨v, h1, h2⟩ := h.get i xs[i] (List.getElem?_eq_getElem hi)
  rw [List.getD_eq_getElem?_getD, List.getD_eq_getElem?_getD, List.getElem?_eq_getElem hi, h1]
  exact h2
theorem XCtr.walkG (hT : TabOK P T) {Ω : Opq} (hΩ : Ω = std) (k : Nat) {g : Nat} {c : Code} {N : Nat} {rs : List ResultVar} {xs : List A} {R : A → List A → Prop} (hf : FnAt P g c N rs) (hN : Nat.ble xs.length N = true)
    (hno : (rootA.rootL k ⟨[], N, []⟩ xs).1.all noOwn = true) {K0 : Exit → State → Prop} (hK0 : ∀ e S', K0 e S' → outX Ω T N rs xs.length R e S') (h : vC Ω P T c (entryM k N xs) K0) : XCtr P g xs R := by
  have hN := Nat.le_of_ble_eq_true hN
  obtain ⟨hen, fn, h1, h2, h3, h4⟩ := hf
  refine ⟨hen, fun w G vs F hG hFnd hFG hl => ?_⟩
  have hlen := hl.length
  have hFlt := hl.lt
  refine calls_of_wp h1 h2 ?_
  generalize htm : vs.toArray ++ Array.replicate (fn.ntmps - vs.toArray.size) undef = tm
  have htms : tm.size = N := by rw [← htm]; simp; omega
  have hinv0 : Inv (P := P) ⟨w, G, (· ∈ F), fun i => vs.getD (i - N) undef⟩ G (fun _ => (none, [])) ⟨[], N, []⟩ tm w := by
    refine ⟨fun _ _ _ => rfl, rfl, rfl, rfl, Nat.le_refl _, htms, fun _ h => h, fun _ h => .inl h, hG, ?_, ?_, ?_, ?_, fun i => .un⟩
    · intro r row hr; simp [rowAt] at hr
    · intro r row hr; simp [rowAt] at hr
    · intro r row hr; simp [rowAt] at hr
    · intro r r' row row' hr; simp [rowAt] at hr
  have hres0 : Res (P := P) ⟨w, G, (· ∈ F), fun i => vs.getD (i - N) undef⟩ G (fun _ => (none, [])) (State.rows ⟨[], N, []⟩) (F ++ []) := by
    rw [List.append_nil]
    exact ⟨hFnd, fun b hb => ⟨hFG b hb, .inl hb⟩, fun r row hr => by simp [rowAt] at hr⟩
  obtain ⟨gs1, r1, r2⟩ := rootL_ok (rootA_ok k) xs ⟨[], N, []⟩ _ vs F [] hinv0 hres0 (fun b hb => hFlt b (by simpa using hb)) hl hno
  have hzl : (rootA.rootL k ⟨[], N, []⟩ xs).1.length = xs.length := by rw [← r2.length, hlen]
  have hi1 := r1.inv
  have hinv : Inv (P := P) ⟨w, G, (· ∈ F), fun i => vs.getD (i - N) undef⟩ G gs1 (entryM k N xs) tm w := by
    refine ⟨hi1.keep, hi1.os, hi1.tape, hi1.output, hi1.size, htms, hi1.gsub, hi1.gnew, hi1.glt, hi1.row, hi1.nod, hi1.own, hi1.dis, fun i => ?_⟩
    show TRel w G (rootA.rootL k ⟨[], N, []⟩ xs).2.rows gs1 (lk (entryT 0 _ ++ entryT N _) i) _ []
    rw [entryT_lk]
    by_cases hi : i < xs.length
    · rw [if_pos ⟨by omega, by rw [hzl]; omega⟩]
      unfold vat
      rw [if_pos (by rw [htms]; omega)]
      have := r2.get' i (by rw [hzl]; exact hi)
      have e : tm.getD i undef = vs.getD i undef := by
        rw [← htm, Array.getD_eq_getD_getElem?, Array.getElem?_append_left (by simp; omega)]
        simp
      rw [e, Nat.sub_zero]; exact this
    · rw [if_neg (by rw [hzl]; omega), lk_entryT]
      by_cases hi2 : N ≤ i ∧ i < N + xs.length
      · rw [if_pos hi2.1]
        unfold vat
        rw [if_neg (by rw [htms]; omega)]
        exact r2.get' (i - N) (by rw [hzl]; omega)
      · have : (if N ≤ i then (rootA.rootL k ⟨[], N, []⟩ xs).1.getD (i - N) .un else .un) = A.un := by
          split
          · rw [List.getD_eq_getElem?_getD, List.getElem?_eq_none (by rw [hzl]; omega)]; rfl
          · rfl
        rw [this]; exact .un
  subst hΩ
  have hwalk := VC.mono (vstart hT rfl h) (K' := outX std T N rs xs.length R) hK0
  refine wp_mono (hwalk ⟨w, G, (· ∈ F), fun i => vs.getD (i - N) undef⟩ { tmps := tm, defers := [] } w ⟨rfl, G, _, hinv⟩) ?_
  rintro e a' w' ⟨S', ⟨hd, G', gs', hi'⟩, hK⟩
  have fin : vOutX std T N S' rs xs.length R → a'.defers = [] ∧ ∃ v, (results fn a'.tmps).run P w' = .ok v w' ∧ (∃ v_1 Fx Fo x outs, R x outs ∧ Ending.returned v = .returned v_1 ∧
      (w'.os = w.os ∧ w'.tape = w.tape ∧ w'.output = w.output ∧ w.heap.size ≤ w'.heap.size ∧ ∀ b, b < w.heap.size → b ∉ F → w'.heap[b]? = w.heap[b]?) ∧
      (Fx ++ Fo).Nodup ∧ (∀ b ∈ Fx ++ Fo, b ∈ F ∨ w.heap.size ≤ b) ∧ Rel w' (fun b => (G b ∨ b ∈ F ∨ (w.heap.size ≤ b ∧ b < w'.heap.size)) ∧ b ∉ Fx ++ Fo) x v_1 Fx ∧
      RelL w' (fun b => (G b ∨ b ∈ F ∨ (w.heap.size ≤ b ∧ b < w'.heap.size)) ∧ b ∉ Fx ++ Fo) outs vs Fo) := by
    intro ho'
    refine ⟨hd, ?_⟩
    unfold vOutX at ho'
    split at ho' <;> try exact ho'.elim
    rename_i hSN
    obtain ⟨zs, us, g1, g2, g3⟩ := vRes_ok hT hi' ho'
    have hgl : TRelL w' G' S'.rows gs' ((List.range xs.length).map fun i => lk S'.t (S'.N + i)) vs [] := by
      have e : vs = (List.range xs.length).map fun i => vat (P := P) ⟨w, G, (· ∈ F), fun i => vs.getD (i - N) undef⟩ a'.tmps (S'.N + i) := by
        have hsz := hi'.sz
        apply List.ext_getElem?
        intro i
        rw [List.getElem?_map]
        by_cases hi : i < xs.length
        · rw [List.getElem?_range hi]
          unfold vat
          rw [Option.map_some, if_neg (by rw [hsz]; omega), hSN]
          show vs[i]? = some (vs.getD (N + i - N) undef)
          rw [Nat.add_sub_cancel_left, List.getD_eq_getElem?_getD, List.getElem?_eq_getElem (by omega)]
          rfl
        · rw [List.getElem?_eq_none (by rw [hlen]; omega), List.getElem?_eq_none (by simp; omega)]; rfl
      have : ∀ l : List Nat, TRelL w' G' S'.rows gs' (l.map fun i => lk S'.t (S'.N + i)) (l.map fun i => vat (P := P) ⟨w, G, (· ∈ F), fun i => vs.getD (i - N) undef⟩ a'.tmps (S'.N + i)) [] := fun l => by
        induction l with
        | nil => exact .nil
        | cons i l ih => exact .cons (F := []) (Fs := []) (hi'.tmp _) ih
      obtain ⟨us, hus⟩ : ∃ us, us = (List.range xs.length).map fun i => vat (P := P) ⟨w, G, (· ∈ F), fun i => vs.getD (i - N) undef⟩ a'.tmps (S'.N + i) := ⟨_, rfl⟩
      have h2 := this (List.range xs.length)
      rw [← hus] at h2
      rw [← hus] at e
      rw [e]; exact h2
    split at g1 <;> try exact g1.elim
    rename_i hok
    obtain ⟨hc, x, outs, hfit, hfits, hR, ho⟩ := vStash_ok _ _ _ _ g1
    obtain ⟨k1, hfit⟩ := hfit.h
    obtain ⟨k2, hfits⟩ := hfits.h
    have hall := g3.append0 hgl
    obtain ⟨Fz, hst, hrel⟩ := stashL_ok _ _ S' _ [] rfl hi' Res.nil (flat_rel hall hok) hc
    rw [List.append_nil] at hst
    have hrg := regroup_rel hall hok hrel
    obtain ⟨Fx, Fo, rfl, q1, q2⟩ := hrg.split_at
    rw [g3.length] at q1 q2
    have hx := fitA_rel k1 _ _ _ _ hfit (oneA_rel q1)
    have hos := fitL_rel (fun x y v F => fitA_rel k2 x y v F) _ _ _ _ hfits q2
    have hGG : ∀ b, G' b → ((G b ∨ b ∈ F ∨ (w.heap.size ≤ b ∧ b < w'.heap.size)) ∧ b ∉ Fx ++ Fo) ∧ w'.heap[b]? = w'.heap[b]? := fun b hb => by
      refine ⟨⟨?_, fun hF => (hst.res.own b hF).1 hb⟩, rfl⟩
      rcases hi'.gnew b hb with h | h | h
      · exact .inl h
      · exact .inr (.inl h)
      · exact .inr (.inr ⟨h, hi'.glt b hb⟩)
    exact ⟨oneV us, h4 _ _ _ g2, _, Fx, Fo, x, outs, hR, rfl, ⟨hi'.os, hi'.tape, hi'.output, hi'.size, fun b hb hF => hi'.keep b hb hF⟩, hst.res.nod, fun b hb => (hst.res.own b hb).2, hx.move_ hGG (fun _ _ => rfl), hos.move_ hGG (fun _ _ => rfl)⟩
  cases e with
  | normal => exact fin hK
  | ret => exact fin hK
  | _ => exact hK.elim
theorem XCtr.walk (hT : TabOK P T) {Ω : Opq} (hΩ : Ω = std) (k : Nat) {g : Nat} {c : Code} {N : Nat} {rs : List ResultVar} {xs : List A} {R : A → List A → Prop} (hf : FnAt P g c N rs) (hN : Nat.ble xs.length N = true)
    (hno : (rootA.rootL k ⟨[], N, []⟩ xs).1.all noOwn = true) (h : vC Ω P T c (entryM k N xs) (outX Ω T N rs xs.length R)) : XCtr P g xs R := XCtr.walkG hT hΩ k hf hN hno (fun _ _ h => h) h
theorem MCtr.walk (hT : TabOK P T) {Ω : Opq} (hΩ : Ω = std) (k : Nat) {g : Nat} {c : Code} {N : Nat} {rs : List ResultVar} {xs : List A} {x : A} {outs : List A} (hf : FnAt P g c N rs) (hN : Nat.ble xs.length N = true)
    (hno : (rootA.rootL k ⟨[], N, []⟩ xs).1.all noOwn = true) (ho : outs.length = xs.length) (h : vC Ω P T c (entryM k N xs) (outM Ω T N rs x outs)) : MCtr P g xs x outs := by
  refine (XCtr.walkG hT hΩ k hf hN hno (R := fun x' o' => x' = x ∧ o' = outs) (fun e S' h => ?_) h).m
  cases e <;> first | exact ho ▸ vOutM_X h ⟨rfl, rfl⟩ | exact h
end
end Go.Fw

/- The same rules with lengths kept shut. Plain theorems, no condition. -/
set_option linter.unusedVariables false
set_option linter.unusedSimpArgs false
namespace Go.Fw
def rootO (Ω : Opq) : Nat → State → A → A × State
  | 0, S, x => (x, S)
  | k + 1, S, x => match x with
    | .sl true n xs => (.vw S.rows.length 0 (Ω.len xs), S.addRow ⟨n, xs, false⟩)
    | .bx xs => (.pt S.rows.length 0 0, S.addRow ⟨xs.length, [.agg xs], true⟩)
    | .agg xs => (.agg (rootOL k S xs).1, (rootOL k S xs).2)
    | .tup xs => (.tup (rootOL k S xs).1, (rootOL k S xs).2)
    | x => (x, S)
where rootOL (k : Nat) (S : State) : List A → List A × State
    | [] => ([], S)
    | x :: xs => ((rootO Ω k S x).1 :: (rootOL k (rootO Ω k S x).2 xs).1, (rootOL k (rootO Ω k S x).2 xs).2)
theorem rootOL_std {k : Nat} (ih : ∀ S x, rootO std k S x = rootA k S x) : ∀ (xs : List A) (S : State), rootO.rootOL std k S xs = rootA.rootL k S xs
  | [], S => by rw [rootO.rootOL, rootA.rootL]
  | x :: xs, S => by rw [rootO.rootOL, rootA.rootL, ih, rootOL_std ih xs]
theorem rootO_std : ∀ (k : Nat) (S : State) (x : A), rootO std k S x = rootA k S x
  | 0, S, x => by rw [rootO, rootA]
  | k + 1, S, x => by
    have ih := rootOL_std (rootO_std k)
    unfold rootO rootA
    cases x with
    | sl o n xs => cases o <;> rfl
    | agg xs => simp only; rw [ih]
    | tup xs => simp only; rw [ih]
    | _ => rfl
def entryO (Ω : Opq) (k N : Nat) (xs : List A) : State :=
  ⟨entryT 0 (rootO.rootOL Ω k ⟨[], N, []⟩ xs).1 ++ entryT N (rootO.rootOL Ω k ⟨[], N, []⟩ xs).1, N, (rootO.rootOL Ω k ⟨[], N, []⟩ xs).2.rows⟩
section
variable {P : Program} {T : Nat → Option TI} {S : State} {Ω : Opq}
theorem call_pure (hΩ : Ω = std) (k : Nat) {g : Nat} {args ys0 ys : List A} {x : A} {K : A → State → Prop} (hc : PCtr P g ys x) (h1 : mapO (roO S k) args = some ys0) (h2 : fitA.fitL k ys0 ys) (hx : roFree x = true)
    (hno : noOwn (rootO Ω k S x).1 = true) (hK : K (rootO Ω k S x).1 (rootO Ω k S x).2) : CallX P g args S K := by
  subst hΩ
  rw [rootO_std] at hno hK
  exact ⟨CallOK_pure hc h1 h2 hx hno hK⟩
theorem call_share (hΩ : Ω = std) (k : Nat) {g : Nat} {args ys : List A} {x : A} {K : A → State → Prop} (hc : PCtr P g ys x) (h1 : args.all isData = true) (h2 : fitA.fitL k args ys)
    (hno : noOwn (rootO Ω k S x).1 = true) (hK : K (rootO Ω k S x).1 (rootO Ω k S x).2) : CallX P g args S K := by
  subst hΩ
  rw [rootO_std] at hno hK
  exact ⟨CallOK_share hc h1 h2 hno hK⟩
theorem MCtr.walkO (hT : TabOK P T) (hΩ : Ω = std) (k : Nat) {g : Nat} {c : Code} {N : Nat} {rs : List ResultVar} {xs : List A} {x : A} {outs : List A} (hf : FnAt P g c N rs) (hN : Nat.ble xs.length N = true)
    (hno : (rootO.rootOL Ω k ⟨[], N, []⟩ xs).1.all noOwn = true) (ho : outs.length = xs.length) (h : vC Ω P T c (entryO Ω k N xs) (outM Ω T N rs x outs)) : MCtr P g xs x outs := by
  have e := rootOL_std (rootO_std k)
  refine MCtr.walk hT hΩ k hf hN ?_ ho ?_
  · subst hΩ; rw [← e]; exact hno
  · have : entryO Ω k N xs = entryM k N xs := by subst hΩ; unfold entryO entryM; rw [e]
    rw [← this]; exact h
theorem XCtr.walkO (hT : TabOK P T) (hΩ : Ω = std) (k : Nat) {g : Nat} {c : Code} {N : Nat} {rs : List ResultVar} {xs : List A} {R : A → List A → Prop} (hf : FnAt P g c N rs) (hN : Nat.ble xs.length N = true)
    (hno : (rootO.rootOL Ω k ⟨[], N, []⟩ xs).1.all noOwn = true) (h : vC Ω P T c (entryO Ω k N xs) (outX Ω T N rs xs.length R)) : XCtr P g xs R := by
  have e := rootOL_std (rootO_std k)
  refine XCtr.walk hT hΩ k hf hN ?_ ?_
  · subst hΩ; rw [← e]; exact hno
  · have : entryO Ω k N xs = entryM k N xs := by subst hΩ; unfold entryO entryM; rw [e]
    rw [← this]; exact h
theorem call_rel (hΩ : Ω = std) (k : Nat) {g : Nat} {args ys : List A} {R : A → List A → Prop} {K : A → State → Prop} (hc : XCtr P g ys R) (l0 : List (Nat × List A)) (hr0 : (l0.map (·.1)).Nodup) (hg : ∃ outs, MutL S args ys outs l0)
    (h : ∀ x outs, R x outs → ∃ l, l.map (·.1) = l0.map (·.1) ∧ MutL S args ys outs l ∧ noOwn (rootO Ω k (S.mut l) x).1 = true ∧ K (rootO Ω k (S.mut l) x).1 (rootO Ω k (S.mut l) x).2) : CallX P g args S K := by
  subst hΩ
  exact ⟨CallOK_rel (k := k) hc l0 hr0 (fun x outs hR => by simp only [← rootO_std]; exact h x outs hR) hg⟩
end
end Go.Fw

/- Calls that are handed own data for good. Plain theorems, no condition. -/
set_option linter.unusedVariables false
set_option linter.unusedSimpArgs false
namespace Go.Fw
/-- A contract of a function that is handed own data for good: what comes back may hold them. -/
structure ECtr (P : Program) (g : Nat) (args : List A) (x : A) : Prop where
  enter : Enter P g
  run : ∀ (w : World) (G : Nat → Prop) (vs : List Value) (F : List Nat), GoodG P w G → F.Nodup → (∀ b ∈ F, ¬ G b) → RelL w G args vs F → Calls P g vs.toArray w (fun e w' => ∃ v Fx, e = .returned v ∧
    (w'.os = w.os ∧ w'.tape = w.tape ∧ w'.output = w.output ∧ w.heap.size ≤ w'.heap.size ∧ ∀ b, b < w.heap.size → b ∉ F → w'.heap[b]? = w.heap[b]?) ∧
    Fx.Nodup ∧ (∀ b ∈ Fx, b ∈ F ∨ w.heap.size ≤ b) ∧ Rel w' (fun b => (G b ∨ b ∈ F ∨ (w.heap.size ≤ b ∧ b < w'.heap.size)) ∧ b ∉ Fx) x v Fx)
def entryE (Ω : Opq) (k N : Nat) (xs : List A) : State := ⟨entryT 0 (rootO.rootOL Ω k ⟨[], N, []⟩ xs).1, N, (rootO.rootOL Ω k ⟨[], N, []⟩ xs).2.rows⟩
section
variable {P : Program} {T : Nat → Option TI} {S : State} {Ω : Opq}
theorem ECtr.walk (hT : TabOK P T) (hΩ : Ω = std) (k : Nat) {g : Nat} {c : Code} {N : Nat} {rs : List ResultVar} {xs : List A} {x : A} (hf : FnAt P g c N rs) (hN : Nat.ble xs.length N = true)
    (hno : (rootO.rootOL Ω k ⟨[], N, []⟩ xs).1.all noOwn = true) (h : vC Ω P T c (entryE Ω k N xs) (outV Ω T rs x)) : ECtr P g xs x := by
  subst hΩ
  have hroot := rootOL_std (rootO_std k)
  unfold entryE at h
  rw [hroot] at h hno
  have hN := Nat.le_of_ble_eq_true hN
  obtain ⟨hen, fn, h1, h2, h3, h4⟩ := hf
  refine ⟨hen, fun w G vs F hG hFnd hFG hl => ?_⟩
  have hlen := hl.length
  have hFlt := hl.lt
  refine calls_of_wp h1 h2 ?_
  generalize htm : vs.toArray ++ Array.replicate (fn.ntmps - vs.toArray.size) undef = tm
  have htms : tm.size = N := by rw [← htm]; simp; omega
  have hinv0 : Inv (P := P) ⟨w, G, (· ∈ F), fun _ => undef⟩ G (fun _ => (none, [])) ⟨[], N, []⟩ tm w := by
    refine ⟨fun _ _ _ => rfl, rfl, rfl, rfl, Nat.le_refl _, htms, fun _ h => h, fun _ h => .inl h, hG, ?_, ?_, ?_, ?_, fun i => .un⟩
    · intro r row hr; simp [rowAt] at hr
    · intro r row hr; simp [rowAt] at hr
    · intro r row hr; simp [rowAt] at hr
    · intro r r' row row' hr; simp [rowAt] at hr
  have hres0 : Res (P := P) ⟨w, G, (· ∈ F), fun _ => undef⟩ G (fun _ => (none, [])) (State.rows ⟨[], N, []⟩) (F ++ []) := by
    rw [List.append_nil]
    exact ⟨hFnd, fun b hb => ⟨hFG b hb, .inl hb⟩, fun r row hr => by simp [rowAt] at hr⟩
  obtain ⟨gs1, r1, r2⟩ := rootL_ok (rootA_ok k) xs ⟨[], N, []⟩ _ vs F [] hinv0 hres0 (fun b hb => hFlt b (by simpa using hb)) hl hno
  have hzl : (rootA.rootL k ⟨[], N, []⟩ xs).1.length = xs.length := by rw [← r2.length, hlen]
  have hi1 := r1.inv
  have hinv : Inv (P := P) ⟨w, G, (· ∈ F), fun _ => undef⟩ G gs1 ⟨entryT 0 (rootA.rootL k ⟨[], N, []⟩ xs).1, N, (rootA.rootL k ⟨[], N, []⟩ xs).2.rows⟩ tm w := by
    refine ⟨hi1.keep, hi1.os, hi1.tape, hi1.output, hi1.size, htms, hi1.gsub, hi1.gnew, hi1.glt, hi1.row, hi1.nod, hi1.own, hi1.dis, fun i => ?_⟩
    show TRel w G (rootA.rootL k ⟨[], N, []⟩ xs).2.rows gs1 (lk (entryT 0 _) i) _ []
    rw [lk_entryT, if_pos (Nat.zero_le _), Nat.sub_zero]
    by_cases hi : i < xs.length
    · unfold vat
      rw [if_pos (by rw [htms]; omega)]
      have := r2.get' i (by rw [hzl]; exact hi)
      have e : tm.getD i undef = vs.getD i undef := by
        rw [← htm, Array.getD_eq_getD_getElem?, Array.getElem?_append_left (by simp; omega)]
        simp
      rw [e]; exact this
    · rw [List.getD_eq_getElem?_getD, List.getElem?_eq_none (by omega)]
      exact .un
  refine wp_mono ((VC.mono (vstart hT rfl h) fun e S' h => outV_ok hT h) ⟨w, G, (· ∈ F), fun _ => undef⟩ { tmps := tm, defers := [] } w ⟨rfl, G, _, hinv⟩) ?_
  rintro e a' w' ⟨S', ⟨hd, G', gs', hi'⟩, hK⟩
  have fin : Outs P rs x S' → a'.defers = [] ∧ ∃ v, (results fn a'.tmps).run P w' = .ok v w' ∧ (∃ v_1 Fx, Ending.returned v = .returned v_1 ∧
      (w'.os = w.os ∧ w'.tape = w.tape ∧ w'.output = w.output ∧ w.heap.size ≤ w'.heap.size ∧ ∀ b, b < w.heap.size → b ∉ F → w'.heap[b]? = w.heap[b]?) ∧
      Fx.Nodup ∧ (∀ b ∈ Fx, b ∈ F ∨ w.heap.size ≤ b) ∧ Rel w' (fun b => (G b ∨ b ∈ F ∨ (w.heap.size ≤ b ∧ b < w'.heap.size)) ∧ b ∉ Fx) x v_1 Fx) := by
    intro ho
    refine ⟨hd, ?_⟩
    obtain ⟨vs', zs, Fx, k', g1, g2, g3, g4, g5⟩ := ho _ _ _ _ _ hi'
    refine ⟨oneV vs', h4 _ _ _ g1, _, Fx, rfl, ⟨hi'.os, hi'.tape, hi'.output, hi'.size, fun b hb hF => hi'.keep b hb hF⟩, g3, fun b hb => (g4 b hb).2, ?_⟩
    refine (fitA_rel k' _ _ _ _ g5 (oneA_rel g2)).move_ (fun b hb => ⟨⟨?_, fun hF => (g4 b hF).1 hb⟩, rfl⟩) (fun _ _ => rfl)
    rcases hi'.gnew b hb with h | h | h
    · exact .inl h
    · exact .inr (.inl h)
    · exact .inr (.inr ⟨h, hi'.glt b hb⟩)
  cases e with
  | normal => exact fin hK
  | ret => exact fin hK
  | _ => exact hK.elim
theorem eat_end {E : Env P} {G : Nat → Prop} {gs : Gh} {S1 : State} {tmps : Array Value} {w w' : World} {F Fx : List Nat} {x : A} {v : Value} (k : Nat) (hi1 : Inv E G gs S1 tmps w) (hR : Res E G gs S1.rows F) (hRlt : ∀ b ∈ F, b < w.heap.size)
    (hos : w'.os = w.os) (htape : w'.tape = w.tape) (hout : w'.output = w.output) (hsize : w.heap.size ≤ w'.heap.size) (hold : ∀ b, b < w.heap.size → b ∉ F → w'.heap[b]? = w.heap[b]?)
    (hnd : Fx.Nodup) (hmem : ∀ b ∈ Fx, b ∈ F ∨ w.heap.size ≤ b) (hx : Rel w' (fun b => (G b ∨ b ∈ F ∨ (w.heap.size ≤ b ∧ b < w'.heap.size)) ∧ b ∉ Fx) x v Fx) (hno : noOwn (rootA k S1 x).1 = true) :
    ∃ gs2, Inv E (fun b => (G b ∨ b ∈ F ∨ (w.heap.size ≤ b ∧ b < w'.heap.size)) ∧ b ∉ Fx) gs2 (rootA k S1 x).2 tmps w' ∧ TRel w' (fun b => (G b ∨ b ∈ F ∨ (w.heap.size ≤ b ∧ b < w'.heap.size)) ∧ b ∉ Fx) (rootA k S1 x).2.rows gs2 (rootA k S1 x).1 v [] := by
  have hrow : ∀ r row, rowAt S1.rows r = some row → ∀ b ∈ gs.all r, w'.heap[b]? = w.heap[b]? ∧ b ∉ Fx := fun r row hr b hb => by
    have h1 := hi1.block_lt hr b hb
    have h2 := hR.dis r row hr b hb
    refine ⟨hold b h1 h2, fun hF => ?_⟩
    rcases hmem b hF with h | h
    · exact h2 h
    · omega
  have hGF : ∀ b, G b → b ∉ Fx := fun b h hF => by
    have := hi1.glt b h
    rcases hmem b hF with h2 | h2
    · exact (hR.own b h2).1 h
    · omega
  have hG : ∀ b, G b → ((G b ∨ b ∈ F ∨ (w.heap.size ≤ b ∧ b < w'.heap.size)) ∧ b ∉ Fx) ∧ w'.heap[b]? = w.heap[b]? := fun b h => ⟨⟨.inl h, hGF b h⟩, hold b (hi1.glt b h) fun hF => (hR.own b hF).1 h⟩
  have hle : ∀ r, RowLe w w' S1.rows S1.rows gs gs r := fun r => RowLe.refl_of fun row h => ⟨h, rfl, fun b hob => (hrow r row h b (by simp [Gh.all, hob])).1⟩
  have hi' : Inv E (fun b => (G b ∨ b ∈ F ∨ (w.heap.size ≤ b ∧ b < w'.heap.size)) ∧ b ∉ Fx) gs S1 tmps w' := by
    refine ⟨fun b h hf => ?_, hos.trans hi1.os, htape.trans hi1.tape, hout.trans hi1.output, Nat.le_trans hi1.size hsize, hi1.sz, fun b h => ⟨.inl (hi1.gsub b h), hGF b (hi1.gsub b h)⟩, fun b h => ?_, hi1.glt.move (fun b h => (hG b h).1) (fun b h => (hG b h).2) (fun b h => ?_), fun r row hr => ?_,
      hi1.nod, fun r row hr b hb => ?_, hi1.dis, fun i => (hi1.tmp i).step hG hle (by simp)⟩
    · rw [hold b (Nat.lt_of_lt_of_le h hi1.size) fun hF => ?_]
      · exact hi1.keep b h hf
      · rcases (hR.own b hF).2 with h2 | h2
        · exact hf h2
        · omega
    · rcases h.1 with h | h | h
      · exact hi1.gnew b h
      · exact .inr (hR.own b h).2
      · exact .inr (.inr (Nat.le_trans hi1.size h.1))
    · rcases h.1 with h | h | h
      · exact Nat.lt_of_lt_of_le (hi1.glt b h) hsize
      · exact Nat.lt_of_lt_of_le (hRlt b h) hsize
      · exact h.2
    · exact (hi1.row r row hr).step hG hle fun c hc => (hrow r row hr c hc).1
    · obtain ⟨g1, g2⟩ := hi1.own r row hr b hb
      refine ⟨fun h => ?_, g2⟩
      have := hi1.block_lt hr b hb
      rcases h.1 with h | h | h
      · exact g1 h
      · exact hR.dis r row hr b hb h
      · omega
  have hR' : Res E (fun b => (G b ∨ b ∈ F ∨ (w.heap.size ≤ b ∧ b < w'.heap.size)) ∧ b ∉ Fx) gs S1.rows (Fx ++ []) := by
    rw [List.append_nil]
    refine ⟨hnd, fun b hb' => ⟨fun h => h.2 hb', ?_⟩, fun r row hr b hb1 hb2 => (hrow r row hr b hb1).2 hb2⟩
    rcases hmem b hb' with h2 | h2
    · exact (hR.own b h2).2
    · exact .inr (Nat.le_trans hi1.size h2)
  obtain ⟨gs2, q1, q2⟩ := rootA_ok k S1 gs x v Fx [] hi' hR' (fun b hb' => hx.lt b (by simpa using hb')) hx hno
  exact ⟨gs2, q1.inv, q2⟩
theorem mapO_relG {f : A → Option A} {w : World} {G G' : Nat → Prop} {gs : Gh} {rows : List (Option Row)} (hf : ∀ x v F y, (∀ b ∈ F, G' b) → TRel w G rows gs x v F → f x = some y → Rel w G' y v []) : ∀ {xs : List A} {vs : List Value} {F : List Nat} {ys : List A},
    (∀ b ∈ F, G' b) → TRelL w G rows gs xs vs F → mapO f xs = some ys → RelL w G' ys vs []
  | [], _, _, ys, _, h, hm => by
    cases h
    simp only [mapO, Option.some.injEq] at hm
    subst hm; exact .nil
  | x :: xs, _, _, ys, hF, h, hm => by
    cases h with
    | cons h hl =>
      simp only [mapO] at hm
      cases hx : f x with
      | none => rw [hx] at hm; simp at hm
      | some y =>
        rw [hx] at hm
        cases hxs : mapO f xs with
        | none => rw [hxs] at hm; simp at hm
        | some us =>
          rw [hxs] at hm
          simp only [Option.some.injEq] at hm
          subst hm
          exact .cons (F := []) (Fs := []) (hf _ _ _ _ (fun b hb => hF b (by simp [hb])) h hx) (mapO_relG hf (fun b hb => hF b (by simp [hb])) hl hxs)
theorem roO_relG {E : Env P} {G G' : Nat → Prop} {gs : Gh} {tmps : Array Value} {w : World} (hi : Inv E G gs S tmps w) (hGO : ∀ b, G b → G' b) (hrow : ∀ r row, rowAt S.rows r = some row → ∀ b ∈ gs.all r, G' b) :
    ∀ (k : Nat) (x : A) (v : Value) (F : List Nat) (y : A), (∀ b ∈ F, G' b) → TRel w G S.rows gs x v F → roO S k x = some y → Rel w G' y v [] := by
  intro k
  induction k with
  | zero => intro x v F y _ _ hy; simp [roO] at hy
  | succ k ih =>
    intro x v F y hF h hy
    have plain : ∀ {x : A} {v : Value}, TRel w G S.rows gs x v F → isData x = true → Rel w G' (Fw.frz x) v [] := fun h hd => (h.data hd).frz hGO hF
    cases x with
    | un => simp [roO] at hy
    | sc u =>
      simp only [roO, Option.some.injEq] at hy; subst hy
      have := plain h (isData_sc u); rwa [frz_sc] at this
    | nil =>
      simp only [roO, Option.some.injEq] at hy; subst hy
      have := plain h isData_nil; rwa [frz_nil] at this
    | sl o n xs =>
      cases o with
      | true =>
        simp only [roO, Option.some.injEq] at hy; subst hy
        have := plain h (isData_sl true n xs); rwa [frz_sl] at this
      | false =>
        simp only [roO, Option.some.injEq] at hy; subst hy
        exact (h.data (isData_sl false n xs)).noOwn (by simp [noOwn_sl]) ▸ (h.data (isData_sl false n xs)).move_ (fun b hb => ⟨hGO b hb, rfl⟩) (fun b hb => rfl)
    | rp xs =>
      simp only [roO, Option.some.injEq] at hy; subst hy
      exact (h.data (isData_rp xs)).noOwn (by simp [noOwn_rp]) ▸ (h.data (isData_rp xs)).move_ (fun b hb => ⟨hGO b hb, rfl⟩) (fun b hb => rfl)
    | bx xs =>
      simp only [roO, Option.some.injEq] at hy; subst hy
      have := plain h (isData_bx xs); rwa [frz_bx] at this
    | agg xs =>
      simp only [roO, Option.map_eq_some_iff] at hy
      obtain ⟨ys, h1, rfl⟩ := hy
      obtain ⟨cs, rfl, hl⟩ := agg_inv h
      have := Rel.agg (mapO_relG (G' := G') (fun x v F y hF hx hy => ih x v F y hF hx hy) hF hl h1)
      simpa using this
    | tup xs =>
      simp only [roO, Option.map_eq_some_iff] at hy
      obtain ⟨ys, h1, rfl⟩ := hy
      obtain ⟨cs, rfl, hl⟩ := tup_inv h
      have := Rel.tup (mapO_relG (G' := G') (fun x v F y hF hx hy => ih x v F y hF hx hy) hF hl h1)
      simpa using this
    | clo g xs =>
      simp only [roO, Option.map_eq_some_iff] at hy
      obtain ⟨ys, h1, rfl⟩ := hy
      cases h with
      | of h => cases h with | clo hl => exact .clo (mapO_relG (gs := gs) (rows := S.rows) (G' := G') (fun x v F y hF hx hy => ih x v F y hF hx hy) hF (.of hl) h1)
      | clo hl => exact .clo (mapO_relG (G' := G') (fun x v F y hF hx hy => ih x v F y hF hx hy) hF hl h1)
    | vw r off len =>
      simp only [roO] at hy
      cases hr : rowAt S.rows r with
      | none => simp [hr] at hy
      | some row =>
        simp only [hr] at hy
        split at hy
        · simp at hy
        · rename_i hlk
          simp only [Option.some.injEq] at hy
          subst hy
          rcases vw_inv h with ⟨row', kk, cap, cur, e, b, hr', hob, g1, g2, g3, g4, g5, g6, rfl⟩ | ⟨row', hr', hob, hxs, rfl, rfl, rfl⟩
          · rw [hr] at hr'
            obtain rfl := Option.some.inj hr'
            have hrr := hi.row r row hr
            rw [hob] at hrr
            obtain ⟨cur', e', cap', h1, h2, h3, h4, h5, h6, h7⟩ := hrr.ex
            rw [g2] at h1
            simp only [Option.some.injEq, Obj.cells.injEq] at h1
            obtain ⟨rfl, rfl, _⟩ := h1
            unfold CellsRel at h7
            rw [if_neg hlk] at h7
            obtain ⟨F1, F2, e1, _, k2⟩ := h7.take_ (off * row.n)
            obtain ⟨F3, F4, e2, k3, _⟩ := k2.take_ (len * row.n)
            rw [flat_drop off h5, flat_take len (fun y hy => h5 y (List.mem_of_mem_drop hy))] at k3
            have hle : (off + len) * row.n ≤ row.xs.length * row.n := Nat.mul_le_mul_right _ g1
            rw [Nat.add_mul] at hle
            rw [List.drop_take, List.take_take, Nat.min_eq_left (by omega)] at k3
            have k4 := RelL.frz k3 (G' := G') hGO (fun c hc => hrow r row hr c (by simp [Gh.all, e1, e2, hc]))
            rw [← flat_frz] at k4
            have hlen : len = (((row.xs.drop off).take len).map Fw.frz).length := by simp; omega
            have hw : ∀ y ∈ ((row.xs.drop off).take len).map Fw.frz, y.width = row.n := fun y hy => by
              obtain ⟨z, hz, rfl⟩ := List.mem_map.1 hy
              rw [width_frz]; exact h5 z (List.mem_of_mem_drop (List.mem_of_mem_take hz))
            have hold : G' b := hrow r row hr b (by simp [Gh.all, hob])
            refine .ro g2 hold hw hlen rfl ?_ (by omega) (by omega)
            rcases g6 with hk | hk
            · rw [hk]; exact k4
            · have h0 : len = 0 := by omega
              subst h0
              simpa using k4
          · rw [hr] at hr'
            obtain rfl := Option.some.inj hr'
            simpa using Rel.nils
    | pt r j o =>
      simp only [roO] at hy
      cases hr : rowAt S.rows r with
      | none => simp [hr] at hy
      | some row =>
        simp only [hr] at hy
        by_cases hjo : j < row.xs.length ∧ o ≤ row.n
        case neg => rw [if_neg hjo] at hy; simp at hy
        rw [if_pos hjo] at hy
        obtain ⟨row', b, hr', hb, rfl⟩ := pt_inv h
        rw [hr] at hr'
        obtain rfl := Option.some.inj hr'
        obtain ⟨b', hb', hrc⟩ := row_real hi hr (by omega)
        rw [hb] at hb'
        obtain rfl := Option.some.inj hb'
        obtain ⟨cur, e, cap, h1, h2, h3, h4, h5, h6, h7⟩ := hrc.ex
        have hz : row.xs[j]? = some (row.xs.getD j .un) := by simp [List.getD_eq_getElem?_getD, List.getElem?_eq_getElem hjo.1]
        generalize row.xs.getD j .un = x at hy hz
        have hw := h5 x (List.mem_of_getElem? hz)
        unfold A.width at hw
        have hseg := flat_seg h5 hz o (row.n - o) (by omega)
        have hxl : ((x.cells.drop o).take (row.n - o)) = x.cells.drop o := by rw [List.take_of_length_le (by simp; omega)]
        have hle : (j + 1) * row.n ≤ row.xs.length * row.n := Nat.mul_le_mul_right _ hjo.1
        rw [Nat.add_mul] at hle
        have hcur : ((cur.toList.take (row.xs.length * row.n)).drop (j * row.n + o)).take (row.n - o) = (cur.toList.drop (j * row.n + o)).take (row.n - o) := by
          rw [List.drop_take, List.take_take, Nat.min_eq_left (by omega)]
        have hold : G' b := hrow r row hr b (by simp [Gh.all, hb])
        have hlenx : (x.cells.drop o).length = row.n - o := by simp; omega
        obtain ⟨F1, F2, e1, _, k2⟩ := h7.t.take_ (j * row.n + o)
        obtain ⟨F3, F4, e2, k3, _⟩ := k2.take_ (row.n - o)
        rw [hseg, hxl, hcur] at k3
        by_cases hlk : row.lk = true
        · rw [if_pos hlk] at hy
          simp only [Option.map_eq_some_iff] at hy
          obtain ⟨ys, hm, rfl⟩ := hy
          have k4 := mapO_relG (G' := G') (fun x v F y hF hx hy => ih x v F y hF hx hy) (fun c hc => hrow r row hr c (by simp [Gh.all, e1, e2, hc])) k3 hm
          have hyl : ys.length = row.n - o := by rw [← k4.length, k3.length, hlenx]
          exact .rp h1 hold rfl (by rw [hyl]; exact k4)
        · rw [if_neg hlk] at hy
          simp only [Option.some.injEq] at hy
          subst hy
          unfold CellsRel at h7
          rw [if_neg hlk] at h7
          obtain ⟨F1', F2', e1', _, k2'⟩ := h7.take_ (j * row.n + o)
          obtain ⟨F3', F4', e2', k3', _⟩ := k2'.take_ (row.n - o)
          rw [hseg, hxl, hcur] at k3'
          have k4 := RelL.frz k3' (G' := G') hGO (fun c hc => hrow r row hr c (by simp [Gh.all, e1', e2', hc]))
          exact .rp h1 hold rfl (by rw [List.length_map, hlenx]; exact k4)

/-- One own row is handed over for good, all else is only read. -/
theorem CallOK_eat2 {g k r len : Nat} {row : Row} {rest ys0 ys : List A} {x : A} {K : A → State → Prop} (hc : ECtr P g (.sl true row.n row.xs :: ys) x) (hr : rowAt S.rows r = some row) (hlk : row.lk = false) (hlen : len = row.xs.length)
    (h1 : mapO (roO (S.turn r none) k) (rest.map (kill r)) = some ys0) (h2 : fitA.fitL k ys0 ys) (hxf : roFree x = true) (hno : noOwn (rootA k (S.turn r none) x).1 = true) (hK : K (rootA k (S.turn r none) x).1 (rootA k (S.turn r none) x).2) :
    CallOK P g (.vw r 0 len :: rest) S K := by
  refine ⟨hc.enter, fun E G gs tmps w vs hi hl => ?_⟩
  generalize hF0 : ([] : List Nat) = F0 at hl
  cases hl with
  | cons hv hl =>
    rename_i v0 Fa vs Fb
    have hFF : Fa = [] ∧ Fb = [] := by simpa using hF0.symm
    obtain ⟨rfl, rfl⟩ := hFF
    have hst1 : stash1 S (.vw r 0 len) = (0 = 0 ∧ len ≤ row.xs.length ∧ row.lk = false, .sl true row.n (row.xs.take len), S.turn r none, [r]) := by simp only [stash1, hr]
    obtain ⟨F, hst, hrel⟩ := stash1_ok (R := []) hi Res.nil hv (by rw [hst1]; exact ⟨rfl, by omega, hlk⟩)
    rw [hst1] at hst hrel
    rw [List.take_of_length_le (by omega)] at hrel
    rw [List.append_nil] at hst
    have hi1 : Inv E G gs (S.turn r none) tmps w := hst.inv
    have hR : Res E G gs (S.turn r none).rows F := hst.res
    have hlt : ∀ b ∈ F, b < w.heap.size := hst.lt (by simp)
    have hl' : TRelL w G (S.turn r none).rows gs (rest.map (kill r)) vs [] := by
      have := hst.stepL rest vs hl
      exact this
    have hys := fitL_rel (fun x y v F => fitA_rel k x y v F) ys0 ys vs [] h2 (mapO_relG (G' := fun b => b < w.heap.size ∧ b ∉ F) (fun x v F y hF hx hy => roO_relG hi1 (fun b hb => ⟨hi1.glt b hb, fun hb2 => (hR.own b hb2).1 hb⟩) (fun r row hr b hb => ⟨hi1.block_lt hr b hb, hR.dis r row hr b hb⟩) k x v F y hF hx hy) (by simp) hl' h1)
    have hargs : RelL w (fun b => b < w.heap.size ∧ b ∉ F) (.sl true row.n row.xs :: ys) (v0 :: vs) F := by
      have := RelL.cons (hrel.move_ (w' := w) (G' := fun b => b < w.heap.size ∧ b ∉ F) (fun b hb => ⟨⟨hi1.glt b hb, fun hb2 => (hR.own b hb2).1 hb⟩, rfl⟩) (fun _ _ => rfl)) hys
      simpa using this
    refine Calls.mono (hc.run w (fun b => b < w.heap.size ∧ b ∉ F) (v0 :: vs) F (hi1.glt.move (fun b hb => ⟨hi1.glt b hb, fun hb2 => (hR.own b hb2).1 hb⟩) (fun _ _ => rfl) fun b hb => hb.1) hR.nod (fun b hb h => h.2 hb) hargs) ?_
    rintro e w' ⟨v, Fx, rfl, ⟨hos, htape, hout, hsize, hold⟩, hnd, hmem, hx⟩
    obtain ⟨gs2, q1, q2⟩ := eat_end k hi1 hR hlt hos htape hout hsize hold hnd hmem (hx.anyG hxf _) hno
    exact ⟨v, _, _, _, gs2, rfl, hK, q1, q2⟩
theorem call_eat2 (hΩ : Ω = std) (k : Nat) {g r len : Nat} {row : Row} {rest ys0 ys : List A} {x : A} {K : A → State → Prop} (hc : ECtr P g (.sl true row.n row.xs :: ys) x) (hr : rowAt S.rows r = some row) (hlk : row.lk = false) (hlen : len = row.xs.length)
    (h1 : mapO (roO (S.turn r none) k) (rest.map (kill r)) = some ys0) (h2 : fitA.fitL k ys0 ys) (hxf : roFree x = true) (hno : noOwn (rootO Ω k (S.turn r none) x).1 = true) (hK : K (rootO Ω k (S.turn r none) x).1 (rootO Ω k (S.turn r none) x).2) :
    CallX P g (.vw r 0 len :: rest) S K := by
  subst hΩ
  rw [rootO_std] at hno hK
  exact ⟨CallOK_eat2 hc hr hlk hlen h1 h2 hxf hno hK⟩
end
section
variable {P : Program} {E : Env P} {G : Nat → Prop} {gs : Gh} {S : State} {w : World} {tmps : Array Value}
/-- One cell of a row: what is told of it may be told otherwise. -/
theorem Inv.cell (hi : Inv E G gs S tmps w) {r j q : Nat} {row : Row} {y z : A} (hr : rowAt S.rows r = some row) (hlkr : row.lk = true) (hy : row.xs[j]? = some y) (hz : y.cells[q]? = some z) :
    ∃ b cur e v F1 Fz F3, (gs r).1 = some b ∧ w.heap[b]? = some (.cells cur e (0, 0)) ∧ cur[j * row.n + q]? = some v ∧ cellV v = true ∧ TRel w G S.rows gs z v Fz ∧ (gs r).2 = F1 ++ (Fz ++ F3) ∧
      ∀ z' Fy, z'.cells = [z'] → Res E G gs S.rows Fy → TRel w G S.rows gs z' v Fy → Inv E G (gs.add r (some b) (F1 ++ (Fy ++ F3))) (S.setRow r ⟨row.n, row.xs.set j (newElem y q [z']), true⟩) tmps w ∧
        Res E G (gs.add r (some b) (F1 ++ (Fy ++ F3))) (S.setRow r ⟨row.n, row.xs.set j (newElem y q [z']), true⟩).rows Fz ∧
        ∀ x u, TRel w G S.rows gs x u [] → TRel w G (S.setRow r ⟨row.n, row.xs.set j (newElem y q [z']), true⟩).rows (gs.add r (some b) (F1 ++ (Fy ++ F3))) x u [] := by
  have hj : j < row.xs.length := (List.getElem?_eq_some_iff.1 hy).1
  obtain ⟨b, hb, hrc⟩ := row_real hi hr (by omega)
  obtain ⟨cur, e, cap, h1, h2, h3, h4, h5, h6, h7⟩ := hrc.ex
  have hyw := h5 y (List.mem_of_getElem? hy)
  have hq : q < y.cells.length := (List.getElem?_eq_some_iff.1 hz).1
  unfold A.width at hyw
  have hle : (j + 1) * row.n ≤ row.xs.length * row.n := Nat.mul_le_mul_right _ hj
  rw [Nat.add_mul] at hle
  have hle2 : row.xs.length * row.n ≤ cap * row.n := Nat.mul_le_mul_right _ h3.le
  obtain ⟨F1, F4, e1, k1, k2⟩ := h7.t.take_ (j * row.n + q)
  obtain ⟨Fz, F3, e2, k3, k4⟩ := k2.take_ 1
  rw [List.drop_drop] at k4
  have hseg := flat_seg h5 hy q 1 (by omega)
  have hseg2 : (y.cells.drop q).take 1 = [z] := by
    rw [List.drop_eq_getElem_cons hq]
    rw [List.getElem?_eq_getElem hq] at hz
    simp only [Option.some.injEq] at hz
    simp [hz]
  rw [hseg, hseg2] at k3
  obtain ⟨v, hv⟩ : ∃ v, cur[j * row.n + q]? = some v := ⟨_, Array.getElem?_eq_getElem (by omega)⟩
  have hvs : ((cur.toList.take (row.xs.length * row.n)).drop (j * row.n + q)).take 1 = [v] := by
    rw [List.drop_take, List.take_take, Nat.min_eq_left (by omega)]
    obtain ⟨hv1, hv2⟩ := Array.getElem?_eq_some_iff.1 hv
    rw [List.drop_eq_getElem_cons (by simpa using hv1)]
    simp [hv2]
  rw [hvs] at k3
  have hzv : TRel w G S.rows gs z v Fz := by
    generalize hu : [v] = us at k3
    cases k3 with
    | cons a c =>
      cases c
      cases hu
      simpa using a
  have hcv : cellV v = true := h6 v (by
    have : v ∈ ((cur.toList.take (row.xs.length * row.n)).drop (j * row.n + q)).take 1 := by rw [hvs]; simp
    exact List.mem_of_mem_drop (List.mem_of_mem_take this))
  subst e2
  refine ⟨b, cur, e, v, F1, Fz, F3, hb, h1, hv, hcv, hzv, e1, fun z' Fy hz' hRy hz2 => ?_⟩
  have hcl := newElem_cells' (x := y) (q := q) (ys := [z']) (by unfold A.width; simp; omega) (by simp) (by simpa using hz')
  have hflat := flat_set h5 hy (q := q) (ys := [z']) (by simp; omega) hcl
  have hnod := hi.nod r row hr
  rw [show gs.all r = b :: (F1 ++ (Fz ++ F3)) by simp [Gh.all, hb, e1]] at hnod
  have hnd := (List.nodup_cons.1 hnod).2
  have hdy : ∀ c ∈ b :: (F1 ++ (Fz ++ F3)), c ∉ Fy := fun c hc => hRy.dis r row hr c (by rw [show gs.all r = b :: (F1 ++ (Fz ++ F3)) by simp [Gh.all, hb, e1]]; exact hc)
  refine hi.recast (Fy := Fy) (row' := ⟨row.n, row.xs.set j (newElem y q [z']), true⟩) hr rfl List.length_set hb hRy (R := Fz) (F' := F1 ++ (Fy ++ F3)) (fun c hc => ?_) ?_ ?_
  · rw [e1]
    simp only [List.mem_append] at hc ⊢
    rcases hc with (h | h | h) | h
    · exact .inl (.inl h)
    · exact .inr h
    · exact .inl (.inr (.inr h))
    · exact .inl (.inr (.inl h))
  · rw [List.nodup_append] at hnd ⊢
    obtain ⟨m1, m2, m3⟩ := hnd
    rw [List.nodup_append] at m2
    obtain ⟨m4, m5, m6⟩ := m2
    refine ⟨List.nodup_append.2 ⟨m1, List.nodup_append.2 ⟨hRy.nod, m5, fun a ha c hc h => by subst h; exact hdy a (by simp [hc]) ha⟩, fun a ha c hc h => ?_⟩, m4, fun a ha c hc h => ?_⟩
    · subst h
      rcases List.mem_append.1 hc with hc | hc
      · exact hdy a (by simp [ha]) hc
      · exact m3 a ha a (by simp [hc]) rfl
    · subst h
      rcases List.mem_append.1 ha with ha | ha
      · exact m3 a ha a (by simp [hc]) rfl
      · rcases List.mem_append.1 ha with ha | ha
        · exact hdy a (by simp [hc]) ha
        · exact m6 a hc a ha rfl
  · refine ⟨cur, e, cap, h1, h2, by rw [hlkr] at h3; simpa using h3, h4, ?_, ?_, ?_⟩
    · intro u hu
      rcases List.mem_or_eq_of_mem_set hu with hu | rfl
      · exact h5 u hu
      · show (newElem y q [z']).cells.length = row.n
        rw [hcl]; simp; omega
    · simpa using h6
    · show CellsRel true w G S.rows gs (flat (row.xs.set j (newElem y q [z']))) (cur.toList.take ((row.xs.set j (newElem y q [z'])).length * row.n)) (F1 ++ (Fy ++ F3))
      unfold CellsRel
      rw [if_pos rfl, List.length_set, hflat]
      generalize cur.toList.take (row.xs.length * row.n) = l at hvs k1 k4
      generalize j * row.n + q = p at hvs k1 k4
      have hs1 : l.drop p = [v] ++ (l.drop p).drop 1 := by rw [← hvs, List.take_append_drop]
      have hs2 : l = l.take p ++ ([v] ++ (l.drop p).drop 1) := by rw [← hs1, List.take_append_drop]
      rw [List.append_assoc]
      have := k1.append ((TRelL.cons hz2 .nil).append k4)
      rw [← hs2] at this
      simpa using this
/-- A nil slice in a cell of an own row told as an own row without a block. -/
theorem Sbs.nilCell {r j q n : Nat} {row : Row} {y : A} (hr : rowAt S.rows r = some row) (hy : row.xs[j]? = some y) (hz : y.cells[q]? = some .nil) (hlkr : row.lk = true := by rfl) :
    Sbs S ((S.addRow ⟨n, [], false⟩).setRow r ⟨row.n, row.xs.set j (newElem y q [.vw S.rows.length 0 0]), true⟩) := by
  intro P E a w ⟨hd, G, gs, hi⟩
  have hR := adopt_res (R1 := []) (R2 := []) (ob := none) (F := []) hi Res.nil (by simp) rfl (row := ⟨n, [], false⟩) (fun _ _ => ⟨rfl, rfl⟩)
  have hlt := rowAt_lt hr
  have hr1 : rowAt (S.addRow ⟨n, [], false⟩).rows r = some row := by
    show rowAt (S.rows ++ [some ⟨n, [], false⟩]) r = _
    rw [rowAt_push, if_neg (by omega)]; exact hr
  obtain ⟨b, cur, e, v, F1, Fz, F3, _, _, _, _, hzv, _, hcell⟩ := hR.inv.cell hr1 hlkr hy hz
  have hv : v = .slice none 0 0 := by
    cases hzv with | of h => cases h; rfl
  have hself : (gs.add S.rows.length none []) S.rows.length = (none, []) := by simp [Gh.add]
  obtain ⟨h1, _, _⟩ := hcell (.vw S.rows.length 0 0) [] rfl Res.nil (by
    rw [hv]
    refine .vwn (row := ⟨n, [], false⟩) ?_ (by rw [hself]) rfl
    show rowAt (S.rows ++ [some ⟨n, [], false⟩]) S.rows.length = _
    rw [rowAt_push, if_pos rfl])
  exact ⟨hd, G, _, h1⟩
end
end Go.Fw

/- The table of the types that the walks ask for. Plain theorems, no condition. -/
namespace Go.Proofs.YtfmcncflooechaaGreatDoor
open Go.Fw
def T : Nat → Option TI
  | 2 => some ⟨1, 8, none, false, false, false, [], (some (.int .i64 0)), (some .i64), none⟩
  | 3 => some ⟨1, 8, none, false, false, false, [], (some (.int .i64 0)), (some .i64), none⟩
  | 4 => some ⟨1, 1, none, false, false, true, [], (some (.bool false)), none, none⟩
  | 5 => some ⟨1, 1, none, false, false, false, [], (some (.int .u8 0)), (some .u8), none⟩
  | 6 => some ⟨1, 1, none, false, false, false, [], (some (.int .u8 0)), (some .u8), none⟩
  | 7 => some ⟨4, 24, none, true, false, false, [(0, 1, false), (1, 1, false), (2, 1, false), (3, 1, false)], (some (.agg #[(.int .i64 0), (.int .i64 0), (.bool false), (.int .u8 0)])), none, none⟩
  | 8 => some ⟨4, 24, none, true, false, false, [(0, 1, false), (1, 1, false), (2, 1, false), (3, 1, false)], (some (.agg #[(.int .i64 0), (.int .i64 0), (.bool false), (.int .u8 0)])), none, none⟩
  | 9 => some ⟨1, 16, none, false, true, false, [], (some (.string ⟨#[]⟩)), none, none⟩
  | 10 => some ⟨1, 16, none, false, true, false, [], (some (.string ⟨#[]⟩)), none, none⟩
  | 11 => some ⟨1, 16, none, false, true, false, [], (some (.string ⟨#[]⟩)), none, none⟩
  | 12 => some ⟨1, 8, none, false, false, false, [], (some (.int .u64 0)), (some .u64), none⟩
  | 13 => some ⟨2, 24, none, true, false, false, [(0, 1, false), (1, 1, false)], (some (.agg #[(.string ⟨#[]⟩), (.int .u64 0)])), none, none⟩
  | 14 => some ⟨2, 24, none, true, false, false, [(0, 1, false), (1, 1, false)], (some (.agg #[(.string ⟨#[]⟩), (.int .u64 0)])), none, none⟩
  | 15 => some ⟨1, 8, none, false, false, false, [], (some (.pointer none)), none, none⟩
  | 16 => some ⟨1, 8, none, false, false, false, [], (some (.pointer none)), none, none⟩
  | 17 => some ⟨1, 8, none, false, false, false, [], (some (.pointer none)), none, none⟩
  | 18 => some ⟨1, 8, none, true, false, false, [(0, 1, false)], (some (.agg #[(.pointer none)])), none, none⟩
  | 19 => some ⟨1, 8, none, true, false, false, [(0, 1, false)], (some (.agg #[(.pointer none)])), none, none⟩
  | 21 => some ⟨1, 4, none, false, false, false, [], (some (.int .i32 0)), (some .i32), none⟩
  | 22 => some ⟨1, 24, (some 5), false, false, false, [], (some (.slice none 0 0)), none, none⟩
  | 24 => some ⟨1, 24, (some 33), false, false, false, [], (some (.slice none 0 0)), none, none⟩
  | 27 => some ⟨3, 40, none, true, false, false, [(0, 1, false), (1, 1, false), (2, 1, false)], (some (.agg #[(.int .i64 0), (.int .i64 0), (.slice none 0 0)])), none, none⟩
  | 28 => some ⟨3, 40, none, true, false, false, [(0, 1, false), (1, 1, false), (2, 1, false)], (some (.agg #[(.int .i64 0), (.int .i64 0), (.slice none 0 0)])), none, none⟩
  | 30 => some ⟨3, 24, none, true, false, false, [(0, 1, false), (1, 1, false), (2, 1, false)], (some (.agg #[(.int .i64 0), (.int .i64 0), (.int .i64 0)])), none, none⟩
  | 31 => some ⟨3, 24, none, true, false, false, [(0, 1, false), (1, 1, false), (2, 1, false)], (some (.agg #[(.int .i64 0), (.int .i64 0), (.int .i64 0)])), none, none⟩
  | 32 => some ⟨8, 72, none, true, false, false, [(0, 1, false), (1, 1, false), (2, 3, true), (5, 3, true)], (some (.agg #[(.int .i64 0), (.string ⟨#[]⟩), (.int .i64 0), (.int .i64 0), (.int .i64 0), (.int .i64 0), (.int .i64 0), (.int .i64 0)])), none, none⟩
  | 33 => some ⟨8, 72, none, true, false, false, [(0, 1, false), (1, 1, false), (2, 3, true), (5, 3, true)], (some (.agg #[(.int .i64 0), (.string ⟨#[]⟩), (.int .i64 0), (.int .i64 0), (.int .i64 0), (.int .i64 0), (.int .i64 0), (.int .i64 0)])), none, none⟩
  | 34 => some ⟨1, 8, none, false, false, false, [], (some (.pointer none)), none, none⟩
  | 36 => some ⟨1, 24, (some 80), false, false, false, [], (some (.slice none 0 0)), none, none⟩
  | 37 => some ⟨1, 24, (some 2), false, false, false, [], (some (.slice none 0 0)), none, none⟩
  | 43 => some ⟨1, 24, (some 9), false, false, false, [], (some (.slice none 0 0)), none, none⟩
  | 49 => some ⟨2, 32, none, true, false, false, [(0, 1, false), (1, 1, false)], (some (.agg #[(.slice none 0 0), (.int .i64 0)])), none, none⟩
  | 50 => some ⟨2, 32, none, true, false, false, [(0, 1, false), (1, 1, false)], (some (.agg #[(.slice none 0 0), (.int .i64 0)])), none, none⟩
  | 56 => some ⟨3, 40, none, true, false, false, [(0, 1, false), (1, 1, false), (2, 1, false)], (some (.agg #[(.int .i64 0), (.int .i64 0), (.slice none 0 0)])), none, none⟩
  | 57 => some ⟨3, 40, none, true, false, false, [(0, 1, false), (1, 1, false), (2, 1, false)], (some (.agg #[(.int .i64 0), (.int .i64 0), (.slice none 0 0)])), none, none⟩
  | 59 => some ⟨1, 24, (some 97), false, false, false, [], (some (.slice none 0 0)), none, none⟩
  | 71 => some ⟨4, 32, none, true, false, false, [(0, 1, false), (1, 3, true)], (some (.agg #[(.int .i64 0), (.int .i64 0), (.int .i64 0), (.int .i64 0)])), none, none⟩
  | 72 => some ⟨4, 32, none, true, false, false, [(0, 1, false), (1, 3, true)], (some (.agg #[(.int .i64 0), (.int .i64 0), (.int .i64 0), (.int .i64 0)])), none, none⟩
  | 78 => some ⟨1, 24, (some 59), false, false, false, [], (some (.slice none 0 0)), none, none⟩
  | 79 => some ⟨8, 120, none, true, false, false, [(0, 1, false), (1, 3, true), (4, 1, false), (5, 1, false), (6, 1, false), (7, 1, false)], (some (.agg #[(.string ⟨#[]⟩), (.int .i64 0), (.int .i64 0), (.int .i64 0), (.int .i64 0), (.slice none 0 0), (.slice none 0 0), (.slice none 0 0)])), none, none⟩
  | 80 => some ⟨8, 120, none, true, false, false, [(0, 1, false), (1, 3, true), (4, 1, false), (5, 1, false), (6, 1, false), (7, 1, false)], (some (.agg #[(.string ⟨#[]⟩), (.int .i64 0), (.int .i64 0), (.int .i64 0), (.int .i64 0), (.slice none 0 0), (.slice none 0 0), (.slice none 0 0)])), none, none⟩
  | 83 => some ⟨1, 24, (some 86), false, false, false, [], (some (.slice none 0 0)), none, none⟩
  | 85 => some ⟨3, 24, none, true, false, false, [(0, 1, false), (1, 1, false), (2, 1, false)], (some (.agg #[(.int .i64 0), (.int .i64 0), (.int .i64 0)])), none, none⟩
  | 86 => some ⟨3, 24, none, true, false, false, [(0, 1, false), (1, 1, false), (2, 1, false)], (some (.agg #[(.int .i64 0), (.int .i64 0), (.int .i64 0)])), none, none⟩
  | 89 => some ⟨1, 24, (some 95), false, false, false, [], (some (.slice none 0 0)), none, none⟩
  | 94 => some ⟨2, 32, none, true, false, false, [(0, 1, false), (1, 1, false)], (some (.agg #[(.int .i64 0), (.slice none 0 0)])), none, none⟩
  | 95 => some ⟨2, 32, none, true, false, false, [(0, 1, false), (1, 1, false)], (some (.agg #[(.int .i64 0), (.slice none 0 0)])), none, none⟩
  | 96 => some ⟨7, 64, none, true, false, false, [(0, 1, false), (1, 3, true), (4, 3, true)], (some (.agg #[(.string ⟨#[]⟩), (.int .i64 0), (.int .i64 0), (.int .i64 0), (.int .i64 0), (.int .i64 0), (.int .i64 0)])), none, none⟩
  | 97 => some ⟨7, 64, none, true, false, false, [(0, 1, false), (1, 3, true), (4, 3, true)], (some (.agg #[(.string ⟨#[]⟩), (.int .i64 0), (.int .i64 0), (.int .i64 0), (.int .i64 0), (.int .i64 0), (.int .i64 0)])), none, none⟩
  | 104 => some ⟨1, 8, none, false, false, false, [], (some (.pointer none)), none, none⟩
  | 105 => some ⟨2, 32, none, true, false, false, [(0, 1, false), (1, 1, false)], (some (.agg #[(.pointer none), (.slice none 0 0)])), none, none⟩
  | 106 => some ⟨2, 32, none, true, false, false, [(0, 1, false), (1, 1, false)], (some (.agg #[(.pointer none), (.slice none 0 0)])), none, none⟩
  | 113 => some ⟨3, 24, none, true, false, false, [], (some (.agg #[(.int .i64 0), (.int .i64 0), (.int .i64 0)])), none, (some (3, 1))⟩
  | 129 => some ⟨1, 8, none, false, false, false, [], (some (.pointer none)), none, none⟩
  | 137 => some ⟨24, 24, none, true, false, false, [], (some (.agg #[(.int .u8 0), (.int .u8 0), (.int .u8 0), (.int .u8 0), (.int .u8 0), (.int .u8 0), (.int .u8 0), (.int .u8 0), (.int .u8 0), (.int .u8 0), (.int .u8 0), (.int .u8 0), (.int .u8 0), (.int .u8 0), (.int .u8 0), (.int .u8 0), (.int .u8 0), (.int .u8 0), (.int .u8 0), (.int .u8 0), (.int .u8 0), (.int .u8 0), (.int .u8 0), (.int .u8 0)])), none, (some (24, 1))⟩
  | 138 => some ⟨1, 8, none, false, false, false, [], (some (.int .u64 0)), (some .u64), none⟩
  | 143 => some ⟨1, 8, none, false, false, false, [], (some (.pointer none)), none, none⟩
  | 152 => some ⟨20, 160, none, true, false, false, [], (some (.agg #[(.int .u64 0), (.int .u64 0), (.int .u64 0), (.int .u64 0), (.int .u64 0), (.int .u64 0), (.int .u64 0), (.int .u64 0), (.int .u64 0), (.int .u64 0), (.int .u64 0), (.int .u64 0), (.int .u64 0), (.int .u64 0), (.int .u64 0), (.int .u64 0), (.int .u64 0), (.int .u64 0), (.int .u64 0), (.int .u64 0)])), none, (some (20, 1))⟩
  | 153 => some ⟨1, 4, none, false, false, false, [], (some (.int .u32 0)), (some .u32), none⟩
  | _ => none

set_option maxRecDepth 100000 in
theorem T_ok : ∀ t i, T t = some i → tiOf Tryz.prog t = some i := by
  intro t i h
  unfold T at h
  split at h
  all_goals (cases h <;> kernel_rfl)
end Go.Proofs.YtfmcncflooechaaGreatDoor

/- The functions: their numbers, bodies, temporaries, results. Plain theorems, no condition. -/
namespace Go.Proofs.YtfmcncflooechaaGreatDoor
open Go.Fw
noncomputable abbrev PP : Program := Tryz.prog
theorem tab : TabOK PP T := T_ok
abbrev n_laws_FnStoryTexts : Nat := 3
theorem fn_laws_FnStoryTexts : FnAt PP 3 (Tryz.f3.body.getD .skip) 58 [.tmp 2] := FnAt.of (fn := Tryz.f3) (by kernel_rfl) (by kernel_rfl) (by kernel_rfl) (by kernel_rfl) (by kernel_rfl) (by decide)
abbrev n_laws_lwBig : Nat := 4
theorem fn_laws_lwBig : FnAt PP 4 (Tryz.f4.body.getD .skip) 6 [.tmp 2] := FnAt.of (fn := Tryz.f4) (by kernel_rfl) (by kernel_rfl) (by kernel_rfl) (by kernel_rfl) (by kernel_rfl) (by decide)
abbrev n_spec_DrawFormatChanges : Nat := 5
theorem fn_spec_DrawFormatChanges : FnAt PP 5 (Tryz.f5.body.getD .skip) 20 [.tmp 2] := FnAt.of (fn := Tryz.f5) (by kernel_rfl) (by kernel_rfl) (by kernel_rfl) (by kernel_rfl) (by kernel_rfl) (by decide)
abbrev n_impl_FormatChanges : Nat := 6
theorem fn_impl_FormatChanges : FnAt PP 6 (Tryz.f6.body.getD .skip) 50 [.tmp 2] := FnAt.of (fn := Tryz.f6) (by kernel_rfl) (by kernel_rfl) (by kernel_rfl) (by kernel_rfl) (by kernel_rfl) (by decide)
abbrev n_impl_ParseChanges : Nat := 7
theorem fn_impl_ParseChanges : FnAt PP 7 (Tryz.f7.body.getD .skip) 38 [.cell 2 28] := FnAt.of (fn := Tryz.f7) (by kernel_rfl) (by kernel_rfl) (by kernel_rfl) (by kernel_rfl) (by kernel_rfl) (by decide)
abbrev n_spec_FormatChanges : Nat := 8
theorem fn_spec_FormatChanges : FnAt PP 8 (Tryz.f8.body.getD .skip) 23 [.tmp 2] := FnAt.of (fn := Tryz.f8) (by kernel_rfl) (by kernel_rfl) (by kernel_rfl) (by kernel_rfl) (by kernel_rfl) (by decide)
abbrev n_spec_l1Source : Nat := 9
theorem fn_spec_l1Source : FnAt PP 9 (Tryz.f9.body.getD .skip) 6 [.tmp 2] := FnAt.of (fn := Tryz.f9) (by kernel_rfl) (by kernel_rfl) (by kernel_rfl) (by kernel_rfl) (by kernel_rfl) (by decide)
abbrev n_spec_l5Draw : Nat := 10
theorem fn_spec_l5Draw : FnAt PP 10 (Tryz.f10.body.getD .skip) 51 [.tmp 2, .tmp 3, .tmp 4] := FnAt.of (fn := Tryz.f10) (by kernel_rfl) (by kernel_rfl) (by kernel_rfl) (by kernel_rfl) (by kernel_rfl) (by decide)
abbrev n_spec_l15List : Nat := 11
theorem fn_spec_l15List : FnAt PP 11 (Tryz.f11.body.getD .skip) 48 [.tmp 8] := FnAt.of (fn := Tryz.f11) (by kernel_rfl) (by kernel_rfl) (by kernel_rfl) (by kernel_rfl) (by kernel_rfl) (by decide)
abbrev n_impl_isTold : Nat := 12
theorem fn_impl_isTold : FnAt PP 12 (Tryz.f12.body.getD .skip) 41 [.tmp 2] := FnAt.of (fn := Tryz.f12) (by kernel_rfl) (by kernel_rfl) (by kernel_rfl) (by kernel_rfl) (by kernel_rfl) (by decide)
abbrev n_impl_Version_text : Nat := 13
theorem fn_impl_Version_text : FnAt PP 13 (Tryz.f13.body.getD .skip) 16 [.tmp 2] := FnAt.of (fn := Tryz.f13) (by kernel_rfl) (by kernel_rfl) (by kernel_rfl) (by kernel_rfl) (by kernel_rfl) (by decide)
abbrev n_impl_joined : Nat := 14
theorem fn_impl_joined : FnAt PP 14 (Tryz.f14.body.getD .skip) 5 [.tmp 2] := FnAt.of (fn := Tryz.f14) (by kernel_rfl) (by kernel_rfl) (by kernel_rfl) (by kernel_rfl) (by kernel_rfl) (by decide)
abbrev n_impl_linesOf : Nat := 15
theorem fn_impl_linesOf : FnAt PP 15 (Tryz.f15.body.getD .skip) 19 [.tmp 2] := FnAt.of (fn := Tryz.f15) (by kernel_rfl) (by kernel_rfl) (by kernel_rfl) (by kernel_rfl) (by kernel_rfl) (by decide)
abbrev n_impl_readChange : Nat := 16
theorem fn_impl_readChange : FnAt PP 16 (Tryz.f16.body.getD .skip) 86 [.cell 2 33, .tmp 3] := FnAt.of (fn := Tryz.f16) (by kernel_rfl) (by kernel_rfl) (by kernel_rfl) (by kernel_rfl) (by kernel_rfl) (by decide)
abbrev n_impl_wordsOf : Nat := 17
theorem fn_impl_wordsOf : FnAt PP 17 (Tryz.f17.body.getD .skip) 6 [.tmp 2] := FnAt.of (fn := Tryz.f17) (by kernel_rfl) (by kernel_rfl) (by kernel_rfl) (by kernel_rfl) (by kernel_rfl) (by decide)
abbrev n_spec_l15Line : Nat := 18
theorem fn_spec_l15Line : FnAt PP 18 (Tryz.f18.body.getD .skip) 69 [.tmp 2] := FnAt.of (fn := Tryz.f18) (by kernel_rfl) (by kernel_rfl) (by kernel_rfl) (by kernel_rfl) (by kernel_rfl) (by decide)
abbrev n_spec_l2Catalog : Nat := 19
theorem fn_spec_l2Catalog : FnAt PP 19 (Tryz.f19.body.getD .skip) 53 [.tmp 2] := FnAt.of (fn := Tryz.f19) (by kernel_rfl) (by kernel_rfl) (by kernel_rfl) (by kernel_rfl) (by kernel_rfl) (by decide)
abbrev n_spec_l3DrawSet : Nat := 20
theorem fn_spec_l3DrawSet : FnAt PP 20 (Tryz.f20.body.getD .skip) 73 [.tmp 4] := FnAt.of (fn := Tryz.f20) (by kernel_rfl) (by kernel_rfl) (by kernel_rfl) (by kernel_rfl) (by kernel_rfl) (by decide)
abbrev n_spec_CatalogFault : Nat := 21
theorem fn_spec_CatalogFault : FnAt PP 21 (Tryz.f21.body.getD .skip) 37 [.tmp 2] := FnAt.of (fn := Tryz.f21) (by kernel_rfl) (by kernel_rfl) (by kernel_rfl) (by kernel_rfl) (by kernel_rfl) (by decide)
abbrev n_spec_l3Set : Nat := 22
theorem fn_spec_l3Set : FnAt PP 22 (Tryz.f22.body.getD .skip) 37 [.tmp 4] := FnAt.of (fn := Tryz.f22) (by kernel_rfl) (by kernel_rfl) (by kernel_rfl) (by kernel_rfl) (by kernel_rfl) (by decide)
abbrev n_spec_l1Chance : Nat := 23
theorem fn_spec_l1Chance : FnAt PP 23 (Tryz.f23.body.getD .skip) 9 [.tmp 4] := FnAt.of (fn := Tryz.f23) (by kernel_rfl) (by kernel_rfl) (by kernel_rfl) (by kernel_rfl) (by kernel_rfl) (by decide)
abbrev n_spec_l4Solve : Nat := 24
theorem fn_spec_l4Solve : FnAt PP 24 (Tryz.f24.body.getD .skip) 79 [.cell 8 57] := FnAt.of (fn := Tryz.f24) (by kernel_rfl) (by kernel_rfl) (by kernel_rfl) (by kernel_rfl) (by kernel_rfl) (by decide)
abbrev n_spec_l3Ask : Nat := 25
theorem fn_spec_l3Ask : FnAt PP 25 (Tryz.f25.body.getD .skip) 33 [.tmp 4] := FnAt.of (fn := Tryz.f25) (by kernel_rfl) (by kernel_rfl) (by kernel_rfl) (by kernel_rfl) (by kernel_rfl) (by decide)
abbrev n_spec_l5Asked : Nat := 26
theorem fn_spec_l5Asked : FnAt PP 26 (Tryz.f26.body.getD .skip) 31 [.tmp 6] := FnAt.of (fn := Tryz.f26) (by kernel_rfl) (by kernel_rfl) (by kernel_rfl) (by kernel_rfl) (by kernel_rfl) (by decide)
abbrev n_spec_l15Changes : Nat := 27
theorem fn_spec_l15Changes : FnAt PP 27 (Tryz.f27.body.getD .skip) 66 [.tmp 6] := FnAt.of (fn := Tryz.f27) (by kernel_rfl) (by kernel_rfl) (by kernel_rfl) (by kernel_rfl) (by kernel_rfl) (by decide)
abbrev n_spec_l1Pick : Nat := 28
theorem fn_spec_l1Pick : FnAt PP 28 (Tryz.f28.body.getD .skip) 12 [.tmp 4] := FnAt.of (fn := Tryz.f28) (by kernel_rfl) (by kernel_rfl) (by kernel_rfl) (by kernel_rfl) (by kernel_rfl) (by decide)
abbrev n_spec_l1BentName : Nat := 29
theorem fn_spec_l1BentName : FnAt PP 29 (Tryz.f29.body.getD .skip) 12 [.tmp 2] := FnAt.of (fn := Tryz.f29) (by kernel_rfl) (by kernel_rfl) (by kernel_rfl) (by kernel_rfl) (by kernel_rfl) (by decide)
abbrev n_spec_l1Version : Nat := 30
theorem fn_spec_l1Version : FnAt PP 30 (Tryz.f30.body.getD .skip) 16 [.cell 2 31] := FnAt.of (fn := Tryz.f30) (by kernel_rfl) (by kernel_rfl) (by kernel_rfl) (by kernel_rfl) (by kernel_rfl) (by decide)
abbrev n_spec_l1BentVersion : Nat := 31
theorem fn_spec_l1BentVersion : FnAt PP 31 (Tryz.f31.body.getD .skip) 27 [.cell 2 31] := FnAt.of (fn := Tryz.f31) (by kernel_rfl) (by kernel_rfl) (by kernel_rfl) (by kernel_rfl) (by kernel_rfl) (by decide)
abbrev n_impl_NameFault : Nat := 32
theorem fn_impl_NameFault : FnAt PP 32 (Tryz.f32.body.getD .skip) 33 [.tmp 2] := FnAt.of (fn := Tryz.f32) (by kernel_rfl) (by kernel_rfl) (by kernel_rfl) (by kernel_rfl) (by kernel_rfl) (by decide)
abbrev n_impl_VersionFault : Nat := 33
theorem fn_impl_VersionFault : FnAt PP 33 (Tryz.f33.body.getD .skip) 19 [.tmp 2] := FnAt.of (fn := Tryz.f33) (by kernel_rfl) (by kernel_rfl) (by kernel_rfl) (by kernel_rfl) (by kernel_rfl) (by decide)
abbrev n_impl_dec : Nat := 34
theorem fn_impl_dec : FnAt PP 34 (Tryz.f34.body.getD .skip) 5 [.tmp 2] := FnAt.of (fn := Tryz.f34) (by kernel_rfl) (by kernel_rfl) (by kernel_rfl) (by kernel_rfl) (by kernel_rfl) (by decide)
abbrev n_strings_Join : Nat := 35
theorem fn_strings_Join : FnAt PP 35 (Tryz.f35.body.getD .skip) 75 [.tmp 4] := FnAt.of (fn := Tryz.f35) (by kernel_rfl) (by kernel_rfl) (by kernel_rfl) (by kernel_rfl) (by kernel_rfl) (by decide)
abbrev n_strings_Split : Nat := 36
theorem fn_strings_Split : FnAt PP 36 (Tryz.f36.body.getD .skip) 8 [.tmp 4] := FnAt.of (fn := Tryz.f36) (by kernel_rfl) (by kernel_rfl) (by kernel_rfl) (by kernel_rfl) (by kernel_rfl) (by decide)
abbrev n_impl_ParseVersion : Nat := 37
theorem fn_impl_ParseVersion : FnAt PP 37 (Tryz.f37.body.getD .skip) 39 [.cell 2 72] := FnAt.of (fn := Tryz.f37) (by kernel_rfl) (by kernel_rfl) (by kernel_rfl) (by kernel_rfl) (by kernel_rfl) (by decide)
abbrev n_slices_DeleteFunc_L_string_string : Nat := 38
theorem fn_slices_DeleteFunc_L_string_string : FnAt PP 38 (Tryz.f38.body.getD .skip) 42 [.tmp 4] := FnAt.of (fn := Tryz.f38) (by kernel_rfl) (by kernel_rfl) (by kernel_rfl) (by kernel_rfl) (by kernel_rfl) (by decide)
abbrev n_impl_wordsOf_1 : Nat := 39
theorem fn_impl_wordsOf_1 : FnAt PP 39 (Tryz.f39.body.getD .skip) 5 [.tmp 2] := FnAt.of (fn := Tryz.f39) (by kernel_rfl) (by kernel_rfl) (by kernel_rfl) (by kernel_rfl) (by kernel_rfl) (by decide)
abbrev n_spec_NameFault : Nat := 40
theorem fn_spec_NameFault : FnAt PP 40 (Tryz.f40.body.getD .skip) 29 [.tmp 2] := FnAt.of (fn := Tryz.f40) (by kernel_rfl) (by kernel_rfl) (by kernel_rfl) (by kernel_rfl) (by kernel_rfl) (by decide)
abbrev n_spec_VersionFault : Nat := 41
theorem fn_spec_VersionFault : FnAt PP 41 (Tryz.f41.body.getD .skip) 19 [.tmp 2] := FnAt.of (fn := Tryz.f41) (by kernel_rfl) (by kernel_rfl) (by kernel_rfl) (by kernel_rfl) (by kernel_rfl) (by decide)
abbrev n_spec_FormatVersion : Nat := 42
theorem fn_spec_FormatVersion : FnAt PP 42 (Tryz.f42.body.getD .skip) 19 [.tmp 2] := FnAt.of (fn := Tryz.f42) (by kernel_rfl) (by kernel_rfl) (by kernel_rfl) (by kernel_rfl) (by kernel_rfl) (by decide)
abbrev n_spec_l1Next : Nat := 43
theorem fn_spec_l1Next : FnAt PP 43 (Tryz.f43.body.getD .skip) 71 [.tmp 4] := FnAt.of (fn := Tryz.f43) (by kernel_rfl) (by kernel_rfl) (by kernel_rfl) (by kernel_rfl) (by kernel_rfl) (by decide)
abbrev n_spec_l2Pack : Nat := 44
theorem fn_spec_l2Pack : FnAt PP 44 (Tryz.f44.body.getD .skip) 63 [.cell 2 80] := FnAt.of (fn := Tryz.f44) (by kernel_rfl) (by kernel_rfl) (by kernel_rfl) (by kernel_rfl) (by kernel_rfl) (by decide)
abbrev n_spec_l2Find : Nat := 45
theorem fn_spec_l2Find : FnAt PP 45 (Tryz.f45.body.getD .skip) 32 [.tmp 6] := FnAt.of (fn := Tryz.f45) (by kernel_rfl) (by kernel_rfl) (by kernel_rfl) (by kernel_rfl) (by kernel_rfl) (by decide)
abbrev n_spec_l2BentPack : Nat := 46
theorem fn_spec_l2BentPack : FnAt PP 46 (Tryz.f46.body.getD .skip) 76 [.cell 2 80] := FnAt.of (fn := Tryz.f46) (by kernel_rfl) (by kernel_rfl) (by kernel_rfl) (by kernel_rfl) (by kernel_rfl) (by decide)
abbrev n_spec_l3Faults : Nat := 47
theorem fn_spec_l3Faults : FnAt PP 47 (Tryz.f47.body.getD .skip) 103 [.tmp 4] := FnAt.of (fn := Tryz.f47) (by kernel_rfl) (by kernel_rfl) (by kernel_rfl) (by kernel_rfl) (by kernel_rfl) (by decide)
abbrev n_spec_PackFault : Nat := 48
theorem fn_spec_PackFault : FnAt PP 48 (Tryz.f48.body.getD .skip) 118 [.tmp 2] := FnAt.of (fn := Tryz.f48) (by kernel_rfl) (by kernel_rfl) (by kernel_rfl) (by kernel_rfl) (by kernel_rfl) (by decide)
abbrev n_spec_l1In : Nat := 49
theorem fn_spec_l1In : FnAt PP 49 (Tryz.f49.body.getD .skip) 15 [.tmp 6] := FnAt.of (fn := Tryz.f49) (by kernel_rfl) (by kernel_rfl) (by kernel_rfl) (by kernel_rfl) (by kernel_rfl) (by decide)
abbrev n_spec_l4Chosen : Nat := 50
theorem fn_spec_l4Chosen : FnAt PP 50 (Tryz.f50.body.getD .skip) 21 [.tmp 2] := FnAt.of (fn := Tryz.f50) (by kernel_rfl) (by kernel_rfl) (by kernel_rfl) (by kernel_rfl) (by kernel_rfl) (by decide)
abbrev n_spec_l4Unmet : Nat := 51
theorem fn_spec_l4Unmet : FnAt PP 51 (Tryz.f51.body.getD .skip) 65 [.tmp 6] := FnAt.of (fn := Tryz.f51) (by kernel_rfl) (by kernel_rfl) (by kernel_rfl) (by kernel_rfl) (by kernel_rfl) (by decide)
abbrev n_spec_l4Sorted : Nat := 52
theorem fn_spec_l4Sorted : FnAt PP 52 (Tryz.f52.body.getD .skip) 19 [.tmp 2] := FnAt.of (fn := Tryz.f52) (by kernel_rfl) (by kernel_rfl) (by kernel_rfl) (by kernel_rfl) (by kernel_rfl) (by decide)
abbrev n_spec_l4Candidates : Nat := 53
theorem fn_spec_l4Candidates : FnAt PP 53 (Tryz.f53.body.getD .skip) 90 [.tmp 10] := FnAt.of (fn := Tryz.f53) (by kernel_rfl) (by kernel_rfl) (by kernel_rfl) (by kernel_rfl) (by kernel_rfl) (by decide)
abbrev n_spec_AnyTerm : Nat := 54
theorem fn_spec_AnyTerm : FnAt PP 54 (Tryz.f54.body.getD .skip) 6 [.cell 2 97] := FnAt.of (fn := Tryz.f54) (by kernel_rfl) (by kernel_rfl) (by kernel_rfl) (by kernel_rfl) (by kernel_rfl) (by decide)
abbrev n_spec_SetFault : Nat := 55
theorem fn_spec_SetFault : FnAt PP 55 (Tryz.f55.body.getD .skip) 15 [.tmp 4] := FnAt.of (fn := Tryz.f55) (by kernel_rfl) (by kernel_rfl) (by kernel_rfl) (by kernel_rfl) (by kernel_rfl) (by decide)
abbrev n_spec_l5Apart : Nat := 56
theorem fn_spec_l5Apart : FnAt PP 56 (Tryz.f56.body.getD .skip) 28 [.tmp 4] := FnAt.of (fn := Tryz.f56) (by kernel_rfl) (by kernel_rfl) (by kernel_rfl) (by kernel_rfl) (by kernel_rfl) (by decide)
abbrev n_spec_l5Changed : Nat := 57
theorem fn_spec_l5Changed : FnAt PP 57 (Tryz.f57.body.getD .skip) 35 [.tmp 6] := FnAt.of (fn := Tryz.f57) (by kernel_rfl) (by kernel_rfl) (by kernel_rfl) (by kernel_rfl) (by kernel_rfl) (by decide)
abbrev n_spec_l5One : Nat := 58
theorem fn_spec_l5One : FnAt PP 58 (Tryz.f58.body.getD .skip) 28 [.tmp 6] := FnAt.of (fn := Tryz.f58) (by kernel_rfl) (by kernel_rfl) (by kernel_rfl) (by kernel_rfl) (by kernel_rfl) (by decide)
abbrev n_spec_l1DrawName : Nat := 59
theorem fn_spec_l1DrawName : FnAt PP 59 (Tryz.f59.body.getD .skip) 8 [.tmp 2] := FnAt.of (fn := Tryz.f59) (by kernel_rfl) (by kernel_rfl) (by kernel_rfl) (by kernel_rfl) (by kernel_rfl) (by decide)
abbrev n_impl_isNameByte : Nat := 60
theorem fn_impl_isNameByte : FnAt PP 60 (Tryz.f60.body.getD .skip) 21 [.tmp 2] := FnAt.of (fn := Tryz.f60) (by kernel_rfl) (by kernel_rfl) (by kernel_rfl) (by kernel_rfl) (by kernel_rfl) (by decide)
abbrev n_impl_within : Nat := 61
theorem fn_impl_within : FnAt PP 61 (Tryz.f61.body.getD .skip) 15 [.tmp 6] := FnAt.of (fn := Tryz.f61) (by kernel_rfl) (by kernel_rfl) (by kernel_rfl) (by kernel_rfl) (by kernel_rfl) (by decide)
abbrev n_strconv_FormatInt : Nat := 62
theorem fn_strconv_FormatInt : FnAt PP 62 (Tryz.f62.body.getD .skip) 8 [.tmp 4] := FnAt.of (fn := Tryz.f62) (by kernel_rfl) (by kernel_rfl) (by kernel_rfl) (by kernel_rfl) (by kernel_rfl) (by decide)
abbrev n_strings_genSplit : Nat := 66
theorem fn_strings_genSplit : FnAt PP 66 (Tryz.f66.body.getD .skip) 66 [.tmp 8] := FnAt.of (fn := Tryz.f66) (by kernel_rfl) (by kernel_rfl) (by kernel_rfl) (by kernel_rfl) (by kernel_rfl) (by decide)
abbrev n_impl_number : Nat := 67
theorem fn_impl_number : FnAt PP 67 (Tryz.f67.body.getD .skip) 40 [.tmp 4] := FnAt.of (fn := Tryz.f67) (by kernel_rfl) (by kernel_rfl) (by kernel_rfl) (by kernel_rfl) (by kernel_rfl) (by decide)
abbrev n_slices_IndexFunc_L_string_string : Nat := 68
theorem fn_slices_IndexFunc_L_string_string : FnAt PP 68 (Tryz.f68.body.getD .skip) 19 [.tmp 4] := FnAt.of (fn := Tryz.f68) (by kernel_rfl) (by kernel_rfl) (by kernel_rfl) (by kernel_rfl) (by kernel_rfl) (by decide)
abbrev n_spec_l1Letter : Nat := 69
theorem fn_spec_l1Letter : FnAt PP 69 (Tryz.f69.body.getD .skip) 9 [.tmp 2] := FnAt.of (fn := Tryz.f69) (by kernel_rfl) (by kernel_rfl) (by kernel_rfl) (by kernel_rfl) (by kernel_rfl) (by decide)
abbrev n_spec_l1Name : Nat := 70
theorem fn_spec_l1Name : FnAt PP 70 (Tryz.f70.body.getD .skip) 13 [.tmp 2] := FnAt.of (fn := Tryz.f70) (by kernel_rfl) (by kernel_rfl) (by kernel_rfl) (by kernel_rfl) (by kernel_rfl) (by decide)
abbrev n_spec_l1Decimal : Nat := 71
theorem fn_spec_l1Decimal : FnAt PP 71 (Tryz.f71.body.getD .skip) 20 [.tmp 2] := FnAt.of (fn := Tryz.f71) (by kernel_rfl) (by kernel_rfl) (by kernel_rfl) (by kernel_rfl) (by kernel_rfl) (by decide)
abbrev n_spec_l1Term : Nat := 72
theorem fn_spec_l1Term : FnAt PP 72 (Tryz.f72.body.getD .skip) 24 [.cell 2 97] := FnAt.of (fn := Tryz.f72) (by kernel_rfl) (by kernel_rfl) (by kernel_rfl) (by kernel_rfl) (by kernel_rfl) (by decide)
abbrev n_spec_CompareVersions : Nat := 73
theorem fn_spec_CompareVersions : FnAt PP 73 (Tryz.f73.body.getD .skip) 28 [.tmp 4] := FnAt.of (fn := Tryz.f73) (by kernel_rfl) (by kernel_rfl) (by kernel_rfl) (by kernel_rfl) (by kernel_rfl) (by decide)
abbrev n_spec_l1BentTerm : Nat := 74
theorem fn_spec_l1BentTerm : FnAt PP 74 (Tryz.f74.body.getD .skip) 29 [.cell 2 97] := FnAt.of (fn := Tryz.f74) (by kernel_rfl) (by kernel_rfl) (by kernel_rfl) (by kernel_rfl) (by kernel_rfl) (by decide)
abbrev n_spec_l3Met : Nat := 75
theorem fn_spec_l3Met : FnAt PP 75 (Tryz.f75.body.getD .skip) 21 [.tmp 6] := FnAt.of (fn := Tryz.f75) (by kernel_rfl) (by kernel_rfl) (by kernel_rfl) (by kernel_rfl) (by kernel_rfl) (by decide)
abbrev n_spec_l3Given : Nat := 76
theorem fn_spec_l3Given : FnAt PP 76 (Tryz.f76.body.getD .skip) 33 [.tmp 8] := FnAt.of (fn := Tryz.f76) (by kernel_rfl) (by kernel_rfl) (by kernel_rfl) (by kernel_rfl) (by kernel_rfl) (by decide)
abbrev n_spec_l2Holds : Nat := 77
theorem fn_spec_l2Holds : FnAt PP 77 (Tryz.f77.body.getD .skip) 18 [.tmp 4] := FnAt.of (fn := Tryz.f77) (by kernel_rfl) (by kernel_rfl) (by kernel_rfl) (by kernel_rfl) (by kernel_rfl) (by decide)
abbrev n_spec_l2Terms : Nat := 78
theorem fn_spec_l2Terms : FnAt PP 78 (Tryz.f78.body.getD .skip) 19 [.tmp 2] := FnAt.of (fn := Tryz.f78) (by kernel_rfl) (by kernel_rfl) (by kernel_rfl) (by kernel_rfl) (by kernel_rfl) (by decide)
abbrev n_spec_l3Put : Nat := 79
theorem fn_spec_l3Put : FnAt PP 79 (Tryz.f79.body.getD .skip) 43 [.tmp 4] := FnAt.of (fn := Tryz.f79) (by kernel_rfl) (by kernel_rfl) (by kernel_rfl) (by kernel_rfl) (by kernel_rfl) (by decide)
abbrev n_spec_l2Gives : Nat := 80
theorem fn_spec_l2Gives : FnAt PP 80 (Tryz.f80.body.getD .skip) 25 [.tmp 4] := FnAt.of (fn := Tryz.f80) (by kernel_rfl) (by kernel_rfl) (by kernel_rfl) (by kernel_rfl) (by kernel_rfl) (by decide)
abbrev n_spec_l1Has : Nat := 81
theorem fn_spec_l1Has : FnAt PP 81 (Tryz.f81.body.getD .skip) 18 [.tmp 4] := FnAt.of (fn := Tryz.f81) (by kernel_rfl) (by kernel_rfl) (by kernel_rfl) (by kernel_rfl) (by kernel_rfl) (by decide)
abbrev n_spec_l4Fits : Nat := 82
theorem fn_spec_l4Fits : FnAt PP 82 (Tryz.f82.body.getD .skip) 54 [.tmp 6] := FnAt.of (fn := Tryz.f82) (by kernel_rfl) (by kernel_rfl) (by kernel_rfl) (by kernel_rfl) (by kernel_rfl) (by decide)
abbrev n_spec_l4Ahead : Nat := 83
theorem fn_spec_l4Ahead : FnAt PP 83 (Tryz.f83.body.getD .skip) 38 [.tmp 8] := FnAt.of (fn := Tryz.f83) (by kernel_rfl) (by kernel_rfl) (by kernel_rfl) (by kernel_rfl) (by kernel_rfl) (by decide)
abbrev n_spec_l1Top : Nat := 84
theorem fn_spec_l1Top : FnAt PP 84 (Tryz.f84.body.getD .skip) 2 [.cell 0 31] := FnAt.of (fn := Tryz.f84) (by kernel_rfl) (by kernel_rfl) (by kernel_rfl) (by kernel_rfl) (by kernel_rfl) (by decide)
abbrev n_spec_l5Put : Nat := 85
theorem fn_spec_l5Put : FnAt PP 85 (Tryz.f85.body.getD .skip) 50 [.tmp 4] := FnAt.of (fn := Tryz.f85) (by kernel_rfl) (by kernel_rfl) (by kernel_rfl) (by kernel_rfl) (by kernel_rfl) (by decide)
abbrev n_spec_l1Digit : Nat := 92
theorem fn_spec_l1Digit : FnAt PP 92 (Tryz.f92.body.getD .skip) 9 [.tmp 2] := FnAt.of (fn := Tryz.f92) (by kernel_rfl) (by kernel_rfl) (by kernel_rfl) (by kernel_rfl) (by kernel_rfl) (by decide)
abbrev n_spec_l1Sign : Nat := 93
theorem fn_spec_l1Sign : FnAt PP 93 (Tryz.f93.body.getD .skip) 11 [.tmp 4] := FnAt.of (fn := Tryz.f93) (by kernel_rfl) (by kernel_rfl) (by kernel_rfl) (by kernel_rfl) (by kernel_rfl) (by decide)
abbrev n_spec_TermFault : Nat := 94
theorem fn_spec_TermFault : FnAt PP 94 (Tryz.f94.body.getD .skip) 33 [.tmp 2] := FnAt.of (fn := Tryz.f94) (by kernel_rfl) (by kernel_rfl) (by kernel_rfl) (by kernel_rfl) (by kernel_rfl) (by decide)
abbrev n_spec_l1InTerm : Nat := 95
theorem fn_spec_l1InTerm : FnAt PP 95 (Tryz.f95.body.getD .skip) 25 [.tmp 6] := FnAt.of (fn := Tryz.f95) (by kernel_rfl) (by kernel_rfl) (by kernel_rfl) (by kernel_rfl) (by kernel_rfl) (by decide)
abbrev n_spec_l4BarsOne : Nat := 96
theorem fn_spec_l4BarsOne : FnAt PP 96 (Tryz.f96.body.getD .skip) 23 [.tmp 6] := FnAt.of (fn := Tryz.f96) (by kernel_rfl) (by kernel_rfl) (by kernel_rfl) (by kernel_rfl) (by kernel_rfl) (by decide)
end Go.Proofs.YtfmcncflooechaaGreatDoor

/- The program's data as plain data, and how memory tells of them. Definitions. -/
set_option linter.unusedVariables false
namespace Go.Proofs.YtfmcncflooechaaGreatDoor
open Go Go.Fw
def i64 (x : Int) : A := .sc (.int .i64 x)
def boo (x : Bool) : A := .sc (.bool x)
def str (x : List UInt8) : A := .sc (.string (mkS x))
structure Ver where
  a : Int
  b : Int
  c : Int
  deriving DecidableEq
def Ver.cells (v : Ver) : List A := [i64 v.a, i64 v.b, i64 v.c]
def Ver.enc (v : Ver) : A := .agg v.cells
def Ver.zero : Ver := ⟨0, 0, 0⟩
structure Chg where
  k : Int
  n : List UInt8
  o : Ver
  w : Ver
  deriving DecidableEq
def Chg.cells (v : Chg) : List A := [i64 v.k, str v.n, i64 v.o.a, i64 v.o.b, i64 v.o.c, i64 v.w.a, i64 v.w.b, i64 v.w.c]
def Chg.enc (v : Chg) : A := .agg v.cells
def Chg.zero : Chg := ⟨0, [], Ver.zero, Ver.zero⟩

/-! Sizes. -/
theorem inc64 {n : Nat} (h : n < 9223372036854775807) : IntKind.i64.wrap ((n : Int) + 1) = ((n + 1 : Nat) : Int) := by rw [wrap64 (by omega) (by omega)]; omega
/-! Steps that all loops have. -/
section
variable {Ω : Opq}
theorem ltI (hΩ : Ω = std) {i : Nat} {xs : List A} (h : Ω.cmp .lss (Ω.int i) (Ω.int (Ω.len xs)) = true) : i < xs.length := by
  subst hΩ
  have h : (i : Int) < xs.length := lt_t h
  omega
theorem geI (hΩ : Ω = std) {i : Nat} {xs : List A} (h : Ω.cmp .lss (Ω.int i) (Ω.int (Ω.len xs)) = false) : xs.length ≤ i := by
  subst hΩ
  have h : (xs.length : Int) ≤ i := lt_f h
  omega
theorem ltN (hΩ : Ω = std) {i n : Nat} (h : Ω.cmp .lss (Ω.int i) (Ω.int n) = true) : i < n := by
  subst hΩ
  have h : (i : Int) < n := lt_t h
  omega
theorem geN (hΩ : Ω = std) {i n : Nat} (h : Ω.cmp .lss (Ω.int i) (Ω.int n) = false) : n ≤ i := by
  subst hΩ
  have h : (n : Int) ≤ i := lt_f h
  omega
theorem nnI (hΩ : Ω = std) {i : Nat} : 0 ≤ Ω.int i := by subst hΩ; exact Int.natCast_nonneg i
theorem rdI (hΩ : Ω = std) {α : Type} {f : α → A} {cs : List α} {xs : List A} {i : Nat} {c : α} (hxs : xs = cs.map f) (hc : cs[i]? = some c) : xs[(Ω.int i).toNat]? = some (f c) := by
  subst hΩ
  show xs[i]? = _
  rw [hxs, List.getElem?_map, hc]; rfl
theorem incI (hΩ : Ω = std) {i : Nat} (h : i < 9223372036854775807) : i64 (Ω.ar .add .i64 (Ω.int i) 1) = i64 (Ω.int (i + 1)) := by subst hΩ; exact congrArg i64 (inc64 h)
theorem zeroI (hΩ : Ω = std) : i64 0 = i64 (Ω.int 0) := by subst hΩ; rfl
theorem ne_self (hΩ : Ω = std) {x : Int} (h : Ω.cmp .neq x x = true) : False := by subst hΩ; exact ne_t h rfl
end
theorem okAll {xs : List A} (h : (flat xs).all okCell = true) : ∀ c ∈ flat xs, okCell c = true := List.all_eq_true.1 h
theorem eqI_t {Ω : Opq} (hΩ : Ω = std) {x y : Int} (h : Ω.cmp .eql x y = true) : x = y := by subst hΩ; exact eq_t h
theorem eqI_f {Ω : Opq} (hΩ : Ω = std) {x y : Int} (h : Ω.cmp .eql x y = false) : x ≠ y := by subst hΩ; exact eq_f h
theorem neI_t {Ω : Opq} (hΩ : Ω = std) {x y : Int} (h : Ω.cmp .neq x y = true) : x ≠ y := by subst hΩ; exact ne_t h
theorem neI_f {Ω : Opq} (hΩ : Ω = std) {x y : Int} (h : Ω.cmp .neq x y = false) : x = y := by subst hΩ; exact ne_f h
theorem geI_t {Ω : Opq} (hΩ : Ω = std) {x y : Int} (h : Ω.cmp .geq x y = true) : y ≤ x := by subst hΩ; exact ge_t h
theorem geI_f {Ω : Opq} (hΩ : Ω = std) {x y : Int} (h : Ω.cmp .geq x y = false) : x < y := by subst hΩ; exact ge_f h
theorem ltI_t {Ω : Opq} (hΩ : Ω = std) {x y : Int} (h : Ω.cmp .lss x y = true) : x < y := by subst hΩ; exact lt_t h
theorem ltI_f {Ω : Opq} (hΩ : Ω = std) {x y : Int} (h : Ω.cmp .lss x y = false) : y ≤ x := by subst hΩ; exact lt_f h
theorem gtI_t {Ω : Opq} (hΩ : Ω = std) {x y : Int} (h : Ω.cmp .gtr x y = true) : y < x := by subst hΩ; exact gt_t h
theorem gtI_f {Ω : Opq} (hΩ : Ω = std) {x y : Int} (h : Ω.cmp .gtr x y = false) : x ≤ y := by subst hΩ; exact gt_f h
theorem ixI {Ω : Opq} (hΩ : Ω = std) {i n : Nat} (h : i < n) : 0 ≤ Ω.int i ∧ Ω.int i < (n : Int) := by subst hΩ; exact ⟨Int.natCast_nonneg i, Int.ofNat_lt.2 h⟩
theorem atI {Ω : Opq} (hΩ : Ω = std) {i : Nat} {xs : List A} {z : A} (h : xs[i]? = some z) : xs[Ω.plus 0 (Ω.nat (Ω.int i))]? = some z := by
  subst hΩ; show xs[0 + i]? = _; rw [Nat.zero_add]; exact h
theorem at_of {α : Type} {cs : List α} {i : Nat} (h : i < cs.length) : ∃ c, cs[i]? = some c := ⟨_, List.getElem?_eq_getElem h⟩
theorem hmo : PP.follows .mixedOrders = true := by kernel_rfl
end Go.Proofs.YtfmcncflooechaaGreatDoor

/- Packages, terms, and what the program's functions say of them, as plain functions. Definitions and plain theorems. -/
set_option linter.unusedVariables false
set_option linter.unusedSimpArgs false
namespace Go.Proofs.YtfmcncflooechaaGreatDoor
open Go Go.Fw
structure Trm where
  n : List UInt8
  l : Ver
  h : Ver
  deriving DecidableEq
def Trm.cells (t : Trm) : List A := [str t.n, i64 t.l.a, i64 t.l.b, i64 t.l.c, i64 t.h.a, i64 t.h.b, i64 t.h.c]
def Trm.enc (t : Trm) : A := .agg t.cells
def Trm.zero : Trm := ⟨[], Ver.zero, Ver.zero⟩
structure Pck where
  n : List UInt8
  v : Ver
  s : Int
  p : List (List UInt8)
  d : List (List Trm)
  b : List Trm
  deriving DecidableEq
def encTs (o : Bool) (l : List Trm) : A := .sl o 7 (l.map Trm.enc)
def Pck.cells (o : Bool) (p : Pck) : List A := [str p.n, i64 p.v.a, i64 p.v.b, i64 p.v.c, i64 p.s, .sl o 1 (p.p.map str), .sl o 1 (p.d.map (encTs o)), .sl o 7 (p.b.map Trm.enc)]
def Pck.enc (o : Bool) (p : Pck) : A := .agg (p.cells o)

/-! What the program's functions say. -/
def letterB (c : UInt8) : Bool := decide (97 ≤ (c.toNat : Int)) && decide ((c.toNat : Int) ≤ 122)
def digitB (c : UInt8) : Bool := decide (48 ≤ (c.toNat : Int)) && decide ((c.toNat : Int) ≤ 57)
def nameB (c : UInt8) : Bool := letterB c || (digitB c || decide ((c.toNat : Int) = 95))
def allCode {α : Type} (p : α → Bool) (k : Int) : List α → Int
  | [] => 0
  | x :: xs => if p x then allCode p k xs else k
def nameF (n : List UInt8) : Int := if (n.length : Int) < 1 then 5 else if (12 : Int) < n.length then 5 else if letterB (n.headD 0) then allCode nameB 5 n else 5
def inB (v l u : Int) : Bool := decide (l ≤ v) && decide (v ≤ u)
def verF (v : Ver) : Int := if inB v.a 0 999 && (inB v.b 0 999 && inB v.c 0 999) then 0 else 3
def sgn (a b : Int) : Int := if a < b then -1 else if b < a then 1 else 0
def cmpV (a b : Ver) : Int := if sgn a.a b.a ≠ 0 then sgn a.a b.a else if sgn a.b b.b ≠ 0 then sgn a.b b.b else sgn a.c b.c
def topV : Ver := ⟨1000, 0, 0⟩
def trmF (t : Trm) : Int :=
  if nameF t.n ≠ 0 then nameF t.n else if verF t.l ≠ 0 then verF t.l else if t.h ≠ topV ∧ verF t.h ≠ 0 then 3 else if 0 ≤ cmpV t.l t.h then 1 else 0
def hasB (t : Trm) (n : List UInt8) (v : Ver) : Bool := (t.n == n) && (decide (cmpV t.l v ≤ 0) && decide (cmpV v t.h < 0))
/-- The first fault of all. -/
def firstF {α : Type} (f : α → Int) : List α → Int
  | [] => 0
  | x :: xs => if f x ≠ 0 then f x else firstF f xs
def inTop (n : List UInt8) : Trm := ⟨n, Ver.zero, topV⟩
theorem sgn_zero {a b : Int} : sgn a b = 0 ↔ a = b := by
  unfold sgn
  split
  · omega
  · split <;> omega
theorem cmpV_zero {a b : Ver} : cmpV a b = 0 ↔ a = b := by
  obtain ⟨x, y, z⟩ := a
  obtain ⟨x', y', z'⟩ := b
  have h1 := @sgn_zero x x'
  have h2 := @sgn_zero y y'
  have h3 := @sgn_zero z z'
  rw [Ver.mk.injEq, ← h1, ← h2, ← h3]
  unfold cmpV
  dsimp only
  generalize sgn x x' = p
  generalize sgn y y' = q
  generalize sgn z z' = r
  repeat' split
  all_goals omega
theorem sgn_swap (a b : Int) : sgn a b = - sgn b a := by
  unfold sgn
  repeat' split
  all_goals omega
theorem cmpV_swap (a b : Ver) : cmpV a b = - cmpV b a := by
  unfold cmpV
  rw [sgn_swap a.a b.a, sgn_swap a.b b.b, sgn_swap a.c b.c]
  generalize sgn b.a a.a = p
  generalize sgn b.b a.b = q
  generalize sgn b.c a.c = r
  repeat' split
  all_goals omega
theorem firstF_at {α : Type} (f : α → Int) {cs : List α} {i : Nat} {c : α} (h : cs[i]? = some c) : firstF f (cs.drop i) = if f c ≠ 0 then f c else firstF f (cs.drop (i + 1)) := by
  obtain ⟨h1, h2⟩ := List.getElem?_eq_some_iff.1 h
  rw [List.drop_eq_getElem_cons h1, h2, firstF]
theorem allCode_at {α : Type} (p : α → Bool) (k : Int) {cs : List α} {i : Nat} {c : α} (h : cs[i]? = some c) : allCode p k (cs.drop i) = if p c then allCode p k (cs.drop (i + 1)) else k := by
  obtain ⟨h1, h2⟩ := List.getElem?_eq_some_iff.1 h
  rw [List.drop_eq_getElem_cons h1, h2, allCode]
theorem any_at {α : Type} (p : α → Bool) {cs : List α} {i : Nat} {c : α} (h : cs[i]? = some c) : (cs.drop i).any p = (p c || (cs.drop (i + 1)).any p) := by
  obtain ⟨h1, h2⟩ := List.getElem?_eq_some_iff.1 h
  rw [List.drop_eq_getElem_cons h1, h2, List.any_cons]
@[simp] theorem std_cmp (op : BinOp) (x y : Int) : std.cmp op x y = cmpIS op x y := rfl
@[simp] theorem std_cmpS (op : BinOp) (x y : List UInt8) : std.cmpS op x y = cmpSS op x y := rfl
@[simp] theorem std_not (x : Bool) : std.not x = !x := rfl
@[simp] theorem std_ite (b x y : Bool) : std.ite b x y = if b then x else y := rfl
@[simp] theorem std_ar (op : BinOp) (k : IntKind) (x y : Int) : std.ar op k x y = arS op k x y := rfl
@[simp] theorem std_int (n : Nat) : std.int n = (n : Int) := rfl
@[simp] theorem std_len (n : List A) : std.len n = n.length := rfl
@[simp] theorem std_lenS (n : List UInt8) : std.lenS n = n.length := rfl
@[simp] theorem std_u8 (n : UInt8) : std.u8 n = (n.toNat : Int) := rfl
theorem notT' {Ω : Opq} (hΩ : Ω = std) {b : Bool} (h : Ω.not b = true) : b = false := by subst hΩ; simpa using h
theorem notF' {Ω : Opq} (hΩ : Ω = std) {b : Bool} (h : Ω.not b = false) : b = true := by subst hΩ; simpa using h
end Go.Proofs.YtfmcncflooechaaGreatDoor

/- Versions are compared as structs. Plain theorems. -/
set_option linter.unusedVariables false
set_option linter.unusedSimpArgs false
namespace Go.Proofs.YtfmcncflooechaaGreatDoor
open Go Go.Fw
theorem verFields : PP.fieldsOf 31 = #[⟨"A", 2, 0, false, "", "", 0⟩, ⟨"B", 2, 1, false, "", "", 8⟩, ⟨"C", 2, 2, false, "", "", 16⟩] := by kernel_rfl
theorem verUnder : PP.underlying 31 = some (.struct (PP.fieldsOf 31)) := by kernel_rfl
theorem verIn : PP.stoodInHeld 31 = false := by kernel_rfl
theorem verG : PP.eqGuardType PP.depth 31 = false := by kernel_rfl
theorem agg2 : aggT PP 2 = some false := by kernel_rfl
theorem under2 : PP.underlying 2 = some (.int .i64) := by kernel_rfl
def Ver.vals (v : Ver) : List Value := [.int .i64 v.a, .int .i64 v.b, .int .i64 v.c]
theorem part2 {P : Program} (h : aggT P 2 = some false) {cs : Array Value} {i : Nat} {v : Value} (hv : cs[i]? = some v) (w : World) : (part 2 cs i).run P w = .ok v w := by
  simp [part, run_isAgg h, hv]
theorem ver_equal (a b : Ver) (w : World) : (Op.equal 31 (.agg a.vals.toArray) (.agg b.vals.toArray)).run PP w = .ok (decide (a = b)) w := by
  show (Op.equalIn (9999 + 1) 31 _ _).run PP w = _
  rw [run_equalIn_struct w 9999 31 _ _ verUnder verIn, verFields]
  have hu := under2
  have ha := agg2
  generalize PP = P at *
  have e : decide (a = b) = ((a.a == b.a) && ((a.b == b.b) && (a.c == b.c))) := by
    cases a; cases b
    rw [Bool.eq_iff_iff]; simp
  rw [e]
  have p0 : ∀ (v : Ver), (part 2 v.vals.toArray 0).run P w = .ok (.int .i64 v.a) w := fun v => part2 ha rfl w
  have p1 : ∀ (v : Ver), (part 2 v.vals.toArray 1).run P w = .ok (.int .i64 v.b) w := fun v => part2 ha rfl w
  have p2 : ∀ (v : Ver), (part 2 v.vals.toArray 2).run P w = .ok (.int .i64 v.c) w := fun v => part2 ha rfl w
  have q : ∀ x y : Int, (Op.equalIn 9999 2 (.int .i64 x) (.int .i64 y)).run P w = .ok (x == y) w := fun x y => run_equalIn_int w 9998 2 .i64 .i64 x y hu
  generalize hd : 9999 = d at q ⊢
  simp only [Op.eqFields, Sem.run_bind, Sem.run_ite, p0, p1, p2, q, Result.andThen_ok]
  cases h1 : (a.a == b.a) <;> cases h2 : (a.b == b.b) <;> cases h3 : (a.c == b.c) <;> simp
theorem ver_guard (op : BinOp) (x y : Operand) (a b : Ver) (w : World) : (eqGuard op 31 x y (.agg a.vals.toArray) (.agg b.vals.toArray)).run PP w = .ok () w := by
  have hg := verG
  generalize PP = P at *
  have h1 : ∀ b : Bool, P.eqGuardType P.depth 31 = true → b = false → False := fun b h => by rw [hg] at h; cases h
  unfold eqGuard
  split
  · simp
    intro h; rw [hg] at h; cases h
  · simp
    intro h; rw [hg] at h; cases h
  · simp
theorem ver_neq (a b : Ver) (x y : Operand) (w : World) : (do eqGuard .neq 31 x y (.agg a.vals.toArray) (.agg b.vals.toArray); binOp .neq 31 (.agg a.vals.toArray) (.agg b.vals.toArray) : Sem Value).run PP w = .ok (.bool (!decide (a = b))) w := by
  have h := ver_equal a b w
  have g := ver_guard .neq x y a b w
  generalize PP = P at *
  simp only [Sem.run_bind, g, Result.andThen_ok, binOp, h]
  rfl
theorem ver_eql (a b : Ver) (x y : Operand) (w : World) : (do eqGuard .eql 31 x y (.agg a.vals.toArray) (.agg b.vals.toArray); binOp .eql 31 (.agg a.vals.toArray) (.agg b.vals.toArray) : Sem Value).run PP w = .ok (.bool (decide (a = b))) w := by
  have h := ver_equal a b w
  have g := ver_guard .eql x y a b w
  generalize PP = P at *
  simp only [Sem.run_bind, g, Result.andThen_ok, binOp, h]
  rfl
structure VerEq (P : Program) : Prop where
  neq : ∀ (a b : Ver) (x y : Operand) (w : World), (do eqGuard .neq 31 x y (.agg a.vals.toArray) (.agg b.vals.toArray); binOp .neq 31 (.agg a.vals.toArray) (.agg b.vals.toArray) : Sem Value).run P w = .ok (.bool (!decide (a = b))) w
  eql : ∀ (a b : Ver) (x y : Operand) (w : World), (do eqGuard .eql 31 x y (.agg a.vals.toArray) (.agg b.vals.toArray); binOp .eql 31 (.agg a.vals.toArray) (.agg b.vals.toArray) : Sem Value).run P w = .ok (.bool (decide (a = b))) w
theorem verEq : VerEq PP := ⟨ver_neq, ver_eql⟩
theorem eqX_neq {P : Program} (hP : VerEq P) (a b : Ver) {k : A → Prop} (h : k (boo (!decide (a = b)))) : EqX P .neq 31 a.cells b.cells k := ⟨_, _, _, rfl, rfl, hP.neq a b, h⟩
theorem eqX_eql {P : Program} (hP : VerEq P) (a b : Ver) {k : A → Prop} (h : k (boo (decide (a = b)))) : EqX P .eql 31 a.cells b.cells k := ⟨_, _, _, rfl, rfl, hP.eql a b, h⟩
end Go.Proofs.YtfmcncflooechaaGreatDoor

/- Changes are compared as structs: each is its own like. Plain theorems. -/
set_option linter.unusedVariables false
set_option linter.unusedSimpArgs false
namespace Go.Proofs.YtfmcncflooechaaGreatDoor
open Go Go.Fw
theorem chgFields : PP.fieldsOf 33 = #[⟨"Kind", 2, 0, false, "", "", 0⟩, ⟨"Name", 9, 1, false, "", "", 8⟩, ⟨"Old", 31, 2, false, "", "", 24⟩, ⟨"New", 31, 5, false, "", "", 48⟩] := by kernel_rfl
theorem chgUnder : PP.underlying 33 = some (.struct (PP.fieldsOf 33)) := by kernel_rfl
theorem chgIn : PP.stoodInHeld 33 = false := by kernel_rfl
theorem chgG : PP.eqGuardType PP.depth 33 = false := by kernel_rfl
theorem agg9 : aggT PP 9 = some false := by kernel_rfl
theorem under9 : PP.underlying 9 = some .string := by kernel_rfl
theorem aggV : aggT PP 31 = some true := by kernel_rfl
theorem szV : szT PP 31 = some 3 := by kernel_rfl
def Chg.vals (v : Chg) : List Value := [.int .i64 v.k, .string (mkS v.n), .int .i64 v.o.a, .int .i64 v.o.b, .int .i64 v.o.c, .int .i64 v.w.a, .int .i64 v.w.b, .int .i64 v.w.c]
theorem ver_same (a : Ver) (d : Nat) (w : World) : (Op.equalIn (d + 2) 31 (.agg a.vals.toArray) (.agg a.vals.toArray)).run PP w = .ok true w := by
  rw [run_equalIn_struct w (d + 1) 31 _ _ verUnder verIn, verFields]
  have hu := under2
  have ha := agg2
  generalize PP = P at *
  have p0 : ∀ (v : Ver), (part 2 v.vals.toArray 0).run P w = .ok (.int .i64 v.a) w := fun v => part2 ha rfl w
  have p1 : ∀ (v : Ver), (part 2 v.vals.toArray 1).run P w = .ok (.int .i64 v.b) w := fun v => part2 ha rfl w
  have p2 : ∀ (v : Ver), (part 2 v.vals.toArray 2).run P w = .ok (.int .i64 v.c) w := fun v => part2 ha rfl w
  have q : ∀ x y : Int, (Op.equalIn (d + 1) 2 (.int .i64 x) (.int .i64 y)).run P w = .ok (x == y) w := fun x y => run_equalIn_int w d 2 .i64 .i64 x y hu
  generalize hd : d + 1 = e at q ⊢
  simp [Op.eqFields, Sem.run_bind, Sem.run_ite, p0, p1, p2, q, Result.andThen_ok]
theorem chg_same (a : Chg) (w : World) : (Op.equal 33 (.agg a.vals.toArray) (.agg a.vals.toArray)).run PP w = .ok true w := by
  show (Op.equalIn (9999 + 1) 33 _ _).run PP w = _
  rw [run_equalIn_struct w 9999 33 _ _ chgUnder chgIn, chgFields]
  have hu := under2
  have hs := under9
  have ha := agg2
  have hb := agg9
  have hv := aggV
  have hz := szV
  have q2 : (Op.equalIn 9999 31 (.agg a.o.vals.toArray) (.agg a.o.vals.toArray)).run PP w = .ok true w := ver_same a.o 9997 w
  have q3 : (Op.equalIn 9999 31 (.agg a.w.vals.toArray) (.agg a.w.vals.toArray)).run PP w = .ok true w := ver_same a.w 9997 w
  generalize PP = P at *
  have p0 : (part 2 a.vals.toArray 0).run P w = .ok (.int .i64 a.k) w := part2 ha rfl w
  have p1 : (part 9 a.vals.toArray 1).run P w = .ok (.string (mkS a.n)) w := by simp [part, run_isAgg hb, Chg.vals]
  have p2 : (part 31 a.vals.toArray 2).run P w = .ok (.agg a.o.vals.toArray) w := by simp [part, run_isAgg hv, run_sizeOf hz, Chg.vals, Ver.vals]
  have p3 : (part 31 a.vals.toArray 5).run P w = .ok (.agg a.w.vals.toArray) w := by simp [part, run_isAgg hv, run_sizeOf hz, Chg.vals, Ver.vals]
  have q : ∀ x y : Int, (Op.equalIn 9999 2 (.int .i64 x) (.int .i64 y)).run P w = .ok (x == y) w := fun x y => run_equalIn_int w 9998 2 .i64 .i64 x y hu
  have q1 : ∀ x : ByteArray, (Op.equalIn 9999 9 (.string x) (.string x)).run P w = .ok true w := fun x => by rw [run_equalIn_string w 9998 9 x x hs]; simp
  generalize hd : 9999 = d at q q1 q2 q3 ⊢
  simp [Op.eqFields, Sem.run_bind, Sem.run_ite, p0, p1, p2, p3, q, q1, q2, q3, Result.andThen_ok]
theorem chg_guard (op : BinOp) (x y : Operand) (a b : Chg) (w : World) : (eqGuard op 33 x y (.agg a.vals.toArray) (.agg b.vals.toArray)).run PP w = .ok () w := by
  have hg := chgG
  generalize PP = P at *
  unfold eqGuard
  split
  · simp
    intro h; rw [hg] at h; cases h
  · simp
    intro h; rw [hg] at h; cases h
  · simp
def ChgEq (P : Program) : Prop := ∀ (a : Chg) (x y : Operand) (w : World), (do eqGuard .neq 33 x y (.agg a.vals.toArray) (.agg a.vals.toArray); binOp .neq 33 (.agg a.vals.toArray) (.agg a.vals.toArray) : Sem Value).run P w = .ok (.bool false) w
theorem chgEq : ChgEq PP := by
  intro a x y w
  have h := chg_same a w
  have g := chg_guard .neq x y a a w
  generalize PP = P at *
  simp only [Sem.run_bind, g, Result.andThen_ok, binOp, h]
  rfl
theorem eqX_chg {P : Program} (hP : ChgEq P) (a : Chg) {k : A → Prop} (h : k (boo false)) : EqX P .neq 33 a.cells a.cells k := ⟨_, _, _, rfl, rfl, hP a, h⟩
end Go.Proofs.YtfmcncflooechaaGreatDoor

/- Walks: bytes, names, versions. Plain theorems. -/
set_option linter.unusedVariables false
set_option linter.unusedSimpArgs false
namespace Go.Proofs.YtfmcncflooechaaGreatDoor
open Go Go.Fw
set_option maxRecDepth 100000
def u8 (c : UInt8) : A := .sc (.int .u8 (c.toNat : Int))
theorem c_within (v l u : Int) : PCtr PP n_impl_within [i64 v, i64 l, i64 u] (boo (inB v l u)) := by
  obtain ⟨Ω, hΩ⟩ : ∃ Ω, Ω = std := ⟨_, rfl⟩
  obtain ⟨r, hr⟩ : ∃ r, r = inB v l u := ⟨_, rfl⟩
  rw [← hr]
  unfold inB at hr
  have htab := tab
  have hmo := hmo
  refine PCtr.walk tab hΩ fn_impl_within rfl ?_
  generalize PP = P at *
  cbv
  repeat' (first | (refine br (fun h => ?_) (fun h => ?_) <;> cbv) | (refine ⟨VC_drawn htab hΩ hmo (by kernel_rfl) ?_⟩; cbv))
  all_goals (refine .of (congrArg boo ?_); subst hΩ; subst hr; rw [Bool.eq_iff_iff]; simp at *; try omega)
theorem c_l1In (v l u : Int) : PCtr PP n_spec_l1In [i64 v, i64 l, i64 u] (boo (inB v l u)) := by
  obtain ⟨Ω, hΩ⟩ : ∃ Ω, Ω = std := ⟨_, rfl⟩
  obtain ⟨r, hr⟩ : ∃ r, r = inB v l u := ⟨_, rfl⟩
  rw [← hr]
  unfold inB at hr
  have htab := tab
  have hmo := hmo
  refine PCtr.walk tab hΩ fn_spec_l1In rfl ?_
  generalize PP = P at *
  cbv
  repeat' (first | (refine br (fun h => ?_) (fun h => ?_) <;> cbv) | (refine ⟨VC_drawn htab hΩ hmo (by kernel_rfl) ?_⟩; cbv))
  all_goals (refine .of (congrArg boo ?_); subst hΩ; subst hr; rw [Bool.eq_iff_iff]; simp at *; try omega)
theorem c_isNameByte (c : UInt8) : PCtr PP n_impl_isNameByte [u8 c] (boo (nameB c)) := by
  obtain ⟨Ω, hΩ⟩ : ∃ Ω, Ω = std := ⟨_, rfl⟩
  obtain ⟨r, hr⟩ : ∃ r, r = nameB c := ⟨_, rfl⟩
  rw [← hr]
  unfold nameB letterB digitB at hr
  unfold u8
  generalize (c.toNat : Int) = n at *
  have htab := tab
  have hmo := hmo
  refine PCtr.walk tab hΩ fn_impl_isNameByte rfl ?_
  generalize PP = P at *
  cbv
  repeat' (first | (refine br (fun h => ?_) (fun h => ?_) <;> cbv) | (refine ⟨VC_drawn htab hΩ hmo (by kernel_rfl) ?_⟩; cbv))
  all_goals (refine .of (congrArg boo ?_); subst hΩ; subst hr; rw [Bool.eq_iff_iff]; simp at *; try omega)
theorem c_l1Letter (c : UInt8) : PCtr PP n_spec_l1Letter [u8 c] (boo (letterB c)) := by
  obtain ⟨Ω, hΩ⟩ : ∃ Ω, Ω = std := ⟨_, rfl⟩
  obtain ⟨r, hr⟩ : ∃ r, r = letterB c := ⟨_, rfl⟩
  rw [← hr]
  unfold letterB at hr
  unfold u8
  generalize (c.toNat : Int) = n at *
  have htab := tab
  have hmo := hmo
  refine PCtr.walk tab hΩ fn_spec_l1Letter rfl ?_
  generalize PP = P at *
  cbv
  repeat' (first | (refine br (fun h => ?_) (fun h => ?_) <;> cbv) | (refine ⟨VC_drawn htab hΩ hmo (by kernel_rfl) ?_⟩; cbv))
  all_goals (refine .of (congrArg boo ?_); subst hΩ; subst hr; rw [Bool.eq_iff_iff]; simp at *; try omega)
theorem c_l1Digit (c : UInt8) : PCtr PP n_spec_l1Digit [u8 c] (boo (digitB c)) := by
  obtain ⟨Ω, hΩ⟩ : ∃ Ω, Ω = std := ⟨_, rfl⟩
  obtain ⟨r, hr⟩ : ∃ r, r = digitB c := ⟨_, rfl⟩
  rw [← hr]
  unfold digitB at hr
  unfold u8
  generalize (c.toNat : Int) = n at *
  have htab := tab
  have hmo := hmo
  refine PCtr.walk tab hΩ fn_spec_l1Digit rfl ?_
  generalize PP = P at *
  cbv
  repeat' (first | (refine br (fun h => ?_) (fun h => ?_) <;> cbv) | (refine ⟨VC_drawn htab hΩ hmo (by kernel_rfl) ?_⟩; cbv))
  all_goals (refine .of (congrArg boo ?_); subst hΩ; subst hr; rw [Bool.eq_iff_iff]; simp at *; try omega)
theorem c_l1Name (c : UInt8) : PCtr PP n_spec_l1Name [u8 c] (boo (nameB c)) := by
  obtain ⟨Ω, hΩ⟩ : ∃ Ω, Ω = std := ⟨_, rfl⟩
  obtain ⟨r, hr⟩ : ∃ r, r = nameB c := ⟨_, rfl⟩
  rw [← hr]
  have hc0 := c_l1Letter c
  have hc1 := c_l1Digit c
  unfold nameB at hr
  unfold u8 at *
  generalize (c.toNat : Int) = n at *
  generalize letterB c = b1 at *
  generalize digitB c = b2 at *
  have htab := tab
  have hmo := hmo
  refine PCtr.walk tab hΩ fn_spec_l1Name rfl ?_
  generalize PP = P at *
  cbv
  repeat' (first | (refine br (fun h => ?_) (fun h => ?_) <;> cbv) | (refine ⟨VC_drawn htab hΩ hmo (by kernel_rfl) ?_⟩; cbv) | (refine QCall_pure (k := 3) (hc0) rfl (fits _) rfl ?_; cbv) | (refine QCall_pure (k := 3) (hc1) rfl (fits _) rfl ?_; cbv) | (refine call_pure hΩ 3 (hc0) rfl (fits _) rfl rfl ?_; cbv) | (refine call_pure hΩ 3 (hc1) rfl (fits _) rfl rfl ?_; cbv))
  all_goals (refine .of (congrArg boo ?_); subst hΩ; subst hr; clear hc0 hc1 htab hmo; first | (rw [show b1 = true by assumption]; rfl) | (rw [show b1 = false by assumption, show b2 = true by assumption]; rfl) | (rw [show b1 = false by assumption, show b2 = false by assumption]; rfl))
theorem c_implVersionFault (v : Ver) : PCtr PP n_impl_VersionFault [v.enc] (i64 (verF v)) := by
  obtain ⟨Ω, hΩ⟩ : ∃ Ω, Ω = std := ⟨_, rfl⟩
  obtain ⟨r, hr⟩ : ∃ r, r = verF v := ⟨_, rfl⟩
  rw [← hr]
  have hc0 := c_within
  unfold verF at hr
  generalize inB = F at *
  have htab := tab
  have hmo := hmo
  refine PCtr.walk tab hΩ fn_impl_VersionFault rfl ?_
  generalize PP = P at *
  cbv
  repeat' (first | (refine br (fun h => ?_) (fun h => ?_) <;> cbv) | (refine ⟨VC_drawn htab hΩ hmo (by kernel_rfl) ?_⟩; cbv) | (refine QCall_pure (k := 3) (hc0 _ _ _) rfl (fits _) rfl ?_; cbv) | (refine call_pure hΩ 3 (hc0 _ _ _) rfl (fits _) rfl rfl ?_; cbv))
  all_goals (refine .of (congrArg i64 ?_); subst hΩ; subst hr; clear hc0 htab hmo; simp_all)
theorem c_specVersionFault (v : Ver) : PCtr PP n_spec_VersionFault [v.enc] (i64 (verF v)) := by
  obtain ⟨Ω, hΩ⟩ : ∃ Ω, Ω = std := ⟨_, rfl⟩
  obtain ⟨r, hr⟩ : ∃ r, r = verF v := ⟨_, rfl⟩
  rw [← hr]
  have hc0 := c_l1In
  unfold verF at hr
  generalize inB = F at *
  have htab := tab
  have hmo := hmo
  refine PCtr.walk tab hΩ fn_spec_VersionFault rfl ?_
  generalize PP = P at *
  cbv
  repeat' (first | (refine br (fun h => ?_) (fun h => ?_) <;> cbv) | (refine ⟨VC_drawn htab hΩ hmo (by kernel_rfl) ?_⟩; cbv) | (refine QCall_pure (k := 3) (hc0 _ _ _) rfl (fits _) rfl ?_; cbv) | (refine call_pure hΩ 3 (hc0 _ _ _) rfl (fits _) rfl rfl ?_; cbv))
  all_goals (refine .of (congrArg i64 ?_); subst hΩ; subst hr; clear hc0 htab hmo; simp_all)
theorem c_l1Sign (x y : Int) : PCtr PP n_spec_l1Sign [i64 x, i64 y] (i64 (sgn x y)) := by
  obtain ⟨Ω, hΩ⟩ : ∃ Ω, Ω = std := ⟨_, rfl⟩
  obtain ⟨r, hr⟩ : ∃ r, r = sgn x y := ⟨_, rfl⟩
  rw [← hr]
  unfold sgn at hr
  have htab := tab
  have hmo := hmo
  refine PCtr.walk tab hΩ fn_spec_l1Sign rfl ?_
  generalize PP = P at *
  cbv
  repeat' (first | (refine br (fun h => ?_) (fun h => ?_) <;> cbv) | (refine ⟨VC_drawn htab hΩ hmo (by kernel_rfl) ?_⟩; cbv))
  all_goals (refine .of (congrArg i64 ?_); subst hΩ; subst hr; simp only [std_cmp, cmpIS_lss, cmpIS_gtr, decide_eq_true_eq, decide_eq_false_iff_not] at *; (repeat' split) <;> omega)
theorem c_CompareVersions (x y : Ver) : PCtr PP n_spec_CompareVersions [x.enc, y.enc] (i64 (cmpV x y)) := by
  obtain ⟨Ω, hΩ⟩ : ∃ Ω, Ω = std := ⟨_, rfl⟩
  obtain ⟨r, hr⟩ : ∃ r, r = cmpV x y := ⟨_, rfl⟩
  rw [← hr]
  have hc0 := c_l1Sign
  unfold cmpV at hr
  generalize sgn = F at *
  have htab := tab
  have hmo := hmo
  refine PCtr.walk tab hΩ fn_spec_CompareVersions rfl ?_
  generalize PP = P at *
  cbv
  repeat' (first | (refine br (fun h => ?_) (fun h => ?_) <;> cbv) | (refine ⟨VC_drawn htab hΩ hmo (by kernel_rfl) ?_⟩; cbv) | (refine QCall_pure (k := 3) (hc0 _ _) rfl (fits _) rfl ?_; cbv) | (refine call_pure hΩ 3 (hc0 _ _) rfl (fits _) rfl rfl ?_; cbv))
  all_goals (refine .of (congrArg i64 ?_); subst hΩ; subst hr; simp_all)
theorem c_specTop : PCtr PP n_spec_l1Top [] topV.enc := by
  obtain ⟨Ω, hΩ⟩ : ∃ Ω, Ω = std := ⟨_, rfl⟩
  refine PCtr.walk tab hΩ fn_spec_l1Top rfl ?_
  generalize PP = P at *
  cbv
  exact .same
end Go.Proofs.YtfmcncflooechaaGreatDoor

/- Walks: names. Plain theorems. -/
set_option linter.unusedVariables false
set_option linter.unusedSimpArgs false
namespace Go.Proofs.YtfmcncflooechaaGreatDoor
open Go Go.Fw
set_option maxRecDepth 100000
theorem ltS {Ω : Opq} (hΩ : Ω = std) {i : Nat} {xs : List UInt8} (h : Ω.cmp .lss (Ω.int i) (Ω.int (Ω.lenS xs)) = true) : i < xs.length := by
  subst hΩ
  have h : (i : Int) < xs.length := lt_t h
  omega
theorem geS {Ω : Opq} (hΩ : Ω = std) {i : Nat} {xs : List UInt8} (h : Ω.cmp .lss (Ω.int i) (Ω.int (Ω.lenS xs)) = false) : xs.length ≤ i := by
  subst hΩ
  have h : (xs.length : Int) ≤ i := lt_f h
  omega
theorem c_implNameFault (s : List UInt8) : PCtr PP n_impl_NameFault [str s] (i64 (nameF s)) := by
  obtain ⟨Ω, hΩ⟩ : ∃ Ω, Ω = std := ⟨_, rfl⟩
  obtain ⟨r, hr⟩ : ∃ r, r = nameF s := ⟨_, rfl⟩
  rw [← hr]
  have hc : ∀ c, PCtr PP n_impl_isNameByte [.sc (.int .u8 (Ω.u8 c))] (boo (nameB c)) := by subst hΩ; exact c_isNameByte
  unfold nameF at hr
  generalize nameB = F at *
  have htab := tab
  have hle : Ω.lenS s = s.length := by subst hΩ; rfl
  refine PCtr.walk tab hΩ fn_impl_NameFault rfl ?_
  generalize PP = P at *
  cbv
  refine br (fun h1 => ?_) (fun h1 => ?_) <;> cbv
  · exact .of (congrArg i64 (by rw [hr, if_pos (by subst hΩ; exact lt_t h1)]))
  rw [if_neg (by subst hΩ; exact Int.not_lt.2 (lt_f h1))] at hr
  refine br (fun h2 => ?_) (fun h2 => ?_) <;> cbv
  · exact .of (congrArg i64 (by rw [hr, if_pos (by subst hΩ; exact gt_t h2)]))
  rw [if_neg (by subst hΩ; exact Int.not_lt.2 (gt_f h2))] at hr
  have hs : s.length ≤ 12 := by subst hΩ; have h2 : (s.length : Int) ≤ 12 := gt_f h2; omega
  obtain ⟨c0, s', hs0⟩ : ∃ c s', s = c :: s' := by
    subst hΩ
    have h1 : (1 : Int) ≤ s.length := lt_f h1
    cases s with
    | nil => simp at h1
    | cons c s' => exact ⟨_, _, rfl⟩
  rw [show s.headD 0 = c0 by rw [hs0]; rfl] at hr
  refine ⟨⟨by decide⟩, c0, by rw [hs0]; rfl, ?_⟩
  cbv
  refine br (fun h3 => ?_) (fun h3 => ?_) <;> cbv
  · exact .of (congrArg i64 (by rw [hr, if_neg (by subst hΩ; have h3 : (c0.toNat : Int) < 97 := lt_t h3; unfold letterB; simp; omega)]))
  refine ⟨⟨by decide⟩, c0, by rw [hs0]; rfl, ?_⟩
  cbv
  refine br (fun h4 => ?_) (fun h4 => ?_) <;> cbv
  · exact .of (congrArg i64 (by rw [hr, if_neg (by subst hΩ; have h4 : 122 < (c0.toNat : Int) := gt_t h4; unfold letterB; simp; omega)]))
  rw [if_pos (by subst hΩ; have h3 : 97 ≤ (c0.toNat : Int) := lt_f h3; have h4 : (c0.toNat : Int) ≤ 122 := gt_f h4; unfold letterB; simp; omega)] at hr
  refine loopX htab hΩ (fun i : Nat => ⟨[(0, .sc (.string (mkS s))), (23, .sc (.int .i64 (Ω.int (Ω.lenS s)))), (24, .sc (.int .i64 (Ω.int i)))], 33, []⟩) (fun i => i ≤ s.length ∧ r = allCode F 5 (s.drop i)) (fun i => s.length - i) 0
    ⟨Nat.zero_le _, hr⟩ (Sbs.mk rfl rfl ⟨rfl, rfl, zeroI hΩ, trivial⟩) ?_
  rintro i ⟨hi, he⟩
  cbv
  refine br (fun h => ?_) (fun h => ?_) <;> cbv
  · replace h := ltS hΩ h
    obtain ⟨c, hcc⟩ := at_of (cs := s) h
    rw [allCode_at _ _ hcc] at he
    refine ⟨⟨nnI hΩ⟩, c, by subst hΩ; exact hcc, ?_⟩
    cbv
    refine call_pure hΩ 3 (hc c) rfl (fits _) rfl rfl ?_
    cbv
    refine br (fun g => ?_) (fun g => ?_) <;> cbv
    · exact .of (congrArg i64 (by rw [he, notT' hΩ g]; rfl))
    · rw [notF' hΩ g] at he
      exact ⟨i + 1, ⟨by omega, he⟩, by omega, Sbs.mk rfl rfl ⟨rfl, rfl, incI hΩ (by omega), trivial⟩⟩
  · replace h := geS hΩ h
    exact .of (congrArg i64 (by rw [he, List.drop_of_length_le h]; rfl))
theorem c_specNameFault (s : List UInt8) : PCtr PP n_spec_NameFault [str s] (i64 (nameF s)) := by
  obtain ⟨Ω, hΩ⟩ : ∃ Ω, Ω = std := ⟨_, rfl⟩
  obtain ⟨r, hr⟩ : ∃ r, r = nameF s := ⟨_, rfl⟩
  rw [← hr]
  have hc : ∀ c, PCtr PP n_spec_l1Name [.sc (.int .u8 (Ω.u8 c))] (boo (nameB c)) := by subst hΩ; exact c_l1Name
  unfold nameF at hr
  generalize nameB = F at *
  have hc2 := c_l1Letter
  have htab := tab
  have hle : Ω.lenS s = s.length := by subst hΩ; rfl
  refine PCtr.walk tab hΩ fn_spec_NameFault rfl ?_
  generalize PP = P at *
  cbv
  refine br (fun h1 => ?_) (fun h1 => ?_) <;> cbv
  · exact .of (congrArg i64 (by rw [hr, if_pos (by subst hΩ; exact lt_t h1)]))
  rw [if_neg (by subst hΩ; exact Int.not_lt.2 (lt_f h1))] at hr
  refine br (fun h2 => ?_) (fun h2 => ?_) <;> cbv
  · exact .of (congrArg i64 (by rw [hr, if_pos (by subst hΩ; exact gt_t h2)]))
  rw [if_neg (by subst hΩ; exact Int.not_lt.2 (gt_f h2))] at hr
  have hs : s.length ≤ 12 := by subst hΩ; have h2 : (s.length : Int) ≤ 12 := gt_f h2; omega
  obtain ⟨c0, s', hs0⟩ : ∃ c s', s = c :: s' := by
    subst hΩ
    have h1 : (1 : Int) ≤ s.length := lt_f h1
    cases s with
    | nil => simp at h1
    | cons c s' => exact ⟨_, _, rfl⟩
  rw [show s.headD 0 = c0 by rw [hs0]; rfl] at hr
  refine ⟨⟨by decide⟩, c0, by rw [hs0]; rfl, ?_⟩
  cbv
  have hl : PCtr P n_spec_l1Letter [.sc (.int .u8 (Ω.u8 c0))] (boo (letterB c0)) := by subst hΩ; exact hc2 c0
  generalize letterB c0 = b at *
  refine call_pure hΩ 3 hl rfl (fits _) rfl rfl ?_
  cbv
  refine br (fun h3 => ?_) (fun h3 => ?_) <;> cbv
  · exact .of (congrArg i64 (by rw [hr, notT' hΩ (b := b) (by subst hΩ; exact h3)]; rfl))
  rw [notF' hΩ (b := b) (by subst hΩ; exact h3), if_pos rfl] at hr
  refine loopX htab hΩ (fun i : Nat => ⟨[(0, .sc (.string (mkS s))), (3, .sc (.int .i64 (Ω.int i)))], 29, []⟩) (fun i => i ≤ s.length ∧ r = allCode F 5 (s.drop i)) (fun i => s.length - i) 0
    ⟨Nat.zero_le _, hr⟩ (Sbs.mk rfl rfl ⟨rfl, zeroI hΩ, trivial⟩) ?_
  rintro i ⟨hi, he⟩
  cbv
  refine br (fun h => ?_) (fun h => ?_) <;> cbv
  · replace h := ltS hΩ h
    obtain ⟨c, hcc⟩ := at_of (cs := s) h
    rw [allCode_at _ _ hcc] at he
    refine ⟨⟨nnI hΩ⟩, c, by subst hΩ; exact hcc, ?_⟩
    cbv
    refine call_pure hΩ 3 (hc c) rfl (fits _) rfl rfl ?_
    cbv
    refine br (fun g => ?_) (fun g => ?_) <;> cbv
    · exact .of (congrArg i64 (by rw [he, notT' hΩ g]; rfl))
    · rw [notF' hΩ g] at he
      exact ⟨i + 1, ⟨by omega, he⟩, by omega, Sbs.mk rfl rfl ⟨rfl, incI hΩ (by omega), trivial⟩⟩
  · replace h := geS hΩ h
    exact .of (congrArg i64 (by rw [he, List.drop_of_length_le h]; rfl))
end Go.Proofs.YtfmcncflooechaaGreatDoor

/- Walks: terms. Plain theorems. -/
set_option linter.unusedVariables false
set_option linter.unusedSimpArgs false
namespace Go.Proofs.YtfmcncflooechaaGreatDoor
open Go Go.Fw
set_option maxRecDepth 100000
def idxFrom {α : Type} (p : α → Bool) : Nat → List α → Int
  | _, [] => -1
  | i, x :: xs => if p x then (i : Int) else idxFrom p (i + 1) xs
def idx {α : Type} (p : α → Bool) (l : List α) : Int := idxFrom p 0 l
theorem idxFrom_at {α : Type} (p : α → Bool) {cs : List α} {i : Nat} {c : α} (h : cs[i]? = some c) : idxFrom p i (cs.drop i) = if p c then (i : Int) else idxFrom p (i + 1) (cs.drop (i + 1)) := by
  obtain ⟨h1, h2⟩ := List.getElem?_eq_some_iff.1 h
  rw [List.drop_eq_getElem_cons h1, h2, idxFrom]
theorem c_specTermFault (t : Trm) : PCtr PP n_spec_TermFault [t.enc] (i64 (trmF t)) := by
  obtain ⟨Ω, hΩ⟩ : ∃ Ω, Ω = std := ⟨_, rfl⟩
  obtain ⟨r, hr⟩ : ∃ r, r = trmF t := ⟨_, rfl⟩
  rw [← hr]
  have h1 := c_specNameFault t.n
  have h2 := c_specVersionFault
  have h3 := c_specTop
  have h4 := c_CompareVersions
  unfold trmF at hr
  generalize nameF t.n = c1 at *
  generalize verF = F at *
  generalize cmpV = C at *
  generalize topV = tv at *
  have htab := tab
  have hmo := hmo
  have hve := verEq
  refine PCtr.walk tab hΩ fn_spec_TermFault rfl ?_
  generalize PP = P at *
  cbv
  refine call_pure hΩ 3 h1 rfl (fits _) rfl rfl ?_
  cbv
  refine br (fun g1 => ?_) (fun g1 => ?_) <;> cbv
  · exact .of (congrArg i64 (by rw [hr, if_pos (neI_t hΩ g1)]))
  rw [if_neg (by rw [neI_f hΩ g1]; simp)] at hr
  refine call_pure hΩ 3 (h2 t.l) rfl (fits _) rfl rfl ?_
  cbv
  refine br (fun g2 => ?_) (fun g2 => ?_) <;> cbv
  · exact .of (congrArg i64 (by rw [hr, if_pos (neI_t hΩ g2)]))
  rw [if_neg (by rw [neI_f hΩ g2]; simp)] at hr
  refine ⟨VC_drawn htab hΩ hmo (by kernel_rfl) ?_⟩
  cbv
  refine QCall_pure (k := 3) h3 rfl (fits _) rfl ?_
  cbv
  refine eqX_neq hve t.h tv ?_
  generalize hD : decide (t.h = tv) = D
  have hr : r = if D = false ∧ ¬F t.h = 0 then 3 else if 0 ≤ C t.l t.h then 1 else 0 := by rw [hr, ← hD]; simp
  cbv
  refine br (fun g3 => ?_) (fun g3 => ?_) <;> cbv
  · have g3 : (!D) = true := g3
    refine QCall_pure (k := 3) (h2 t.h) rfl (fits _) rfl ?_
    cbv
    refine br (fun g4 => ?_) (fun g4 => ?_) <;> cbv
    · refine .of (congrArg i64 ?_)
      subst hΩ
      rw [hr, if_pos]
      exact ⟨by simpa using g3, by simpa using g4⟩
    refine call_pure hΩ 3 (h4 t.l t.h) rfl (fits _) rfl rfl ?_
    cbv
    rw [if_neg (by subst hΩ; simp at g4; simp [g4])] at hr
    refine br (fun g5 => ?_) (fun g5 => ?_) <;> cbv
    · exact .of (congrArg i64 (by rw [hr, if_pos (by subst hΩ; exact ge_t g5)]))
    · exact .of (congrArg i64 (by rw [hr, if_neg (by subst hΩ; exact Int.not_le.2 (ge_f g5))]))
  · have g3 : (!D) = false := g3
    rw [if_neg (by simp at g3; simp [g3])] at hr
    refine call_pure hΩ 3 (h4 t.l t.h) rfl (fits _) rfl rfl ?_
    cbv
    refine br (fun g5 => ?_) (fun g5 => ?_) <;> cbv
    · exact .of (congrArg i64 (by rw [hr, if_pos (by subst hΩ; exact ge_t g5)]))
    · exact .of (congrArg i64 (by rw [hr, if_neg (by subst hΩ; exact Int.not_le.2 (ge_f g5))]))
theorem c_l2Holds (l : List (List UInt8)) (s : List UInt8) (hl : l.length ≤ 4611686018427387904) : PCtr PP n_spec_l2Holds [.sl false 1 (l.map str), str s] (boo (l.any (· == s))) := by
  obtain ⟨Ω, hΩ⟩ : ∃ Ω, Ω = std := ⟨_, rfl⟩
  obtain ⟨r, hr⟩ : ∃ r, r = l.any (· == s) := ⟨_, rfl⟩
  rw [← hr]
  obtain ⟨xs, hxs⟩ : ∃ xs, xs = l.map str := ⟨_, rfl⟩
  have hlen : xs.length = l.length := by rw [hxs, List.length_map]
  rw [← hxs]
  have htab := tab
  have hmo := hmo
  have hve := verEq
  refine PCtr.walk tab hΩ fn_spec_l2Holds rfl ?_
  generalize PP = P at *
  cbv
  refine loopX htab hΩ (fun i : Nat => ⟨[(0, .sl false 1 xs), (1, .sc (.string (mkS s))), (5, .sc (.int .i64 (Ω.int i)))], 18, []⟩) (fun i => i ≤ l.length ∧ r = (l.drop i).any (· == s)) (fun i => l.length - i) 0
    ⟨Nat.zero_le _, hr⟩ (Sbs.mk rfl rfl ⟨rfl, rfl, zeroI hΩ, trivial⟩) ?_
  rintro i ⟨hi, he⟩
  cbv
  refine br (fun h => ?_) (fun h => ?_) <;> cbv
  · replace h := ltI hΩ h
    obtain ⟨c, hcc⟩ := at_of (cs := l) (by omega : i < l.length)
    rw [any_at _ hcc] at he
    refine ⟨⟨nnI hΩ⟩, _, rdI hΩ hxs hcc, ?_⟩
    cbv
    refine br (fun g => ?_) (fun g => ?_) <;> cbv
    · exact .of (congrArg boo (by rw [he]; subst hΩ; rw [show (c == s) = true from g]; rfl))
    · rw [show (c == s) = false by subst hΩ; exact g, Bool.false_or] at he
      exact ⟨i + 1, ⟨by omega, he⟩, by omega, Sbs.mk rfl rfl ⟨rfl, rfl, incI hΩ (by omega), trivial⟩⟩
  · replace h := geI hΩ h
    exact .of (congrArg boo (by rw [he, List.drop_of_length_le (by omega)]; rfl))
end Go.Proofs.YtfmcncflooechaaGreatDoor

/- Walks: terms of packages. Plain theorems. -/
set_option linter.unusedVariables false
set_option linter.unusedSimpArgs false
namespace Go.Proofs.YtfmcncflooechaaGreatDoor
open Go Go.Fw
set_option maxRecDepth 100000
def givesB (o : Pck) (t : Trm) : Bool := (t.n == o.n || o.p.any (· == t.n)) && hasB t t.n o.v
theorem enc_raw (o : Pck) : ∃ ps ds bs, o.enc false = .agg [str o.n, i64 o.v.a, i64 o.v.b, i64 o.v.c, i64 o.s, .sl false 1 ps, .sl false 1 ds, .sl false 7 bs] ∧ ps = o.p.map str ∧ ds = o.d.map (encTs false) ∧ bs = o.b.map Trm.enc := ⟨_, _, _, rfl, rfl, rfl, rfl⟩
theorem c_l1InTerm (t : Trm) (n : List UInt8) (v : Ver) : PCtr PP n_spec_l1InTerm [t.enc, str n, v.enc] (boo (hasB t n v)) := by
  obtain ⟨Ω, hΩ⟩ : ∃ Ω, Ω = std := ⟨_, rfl⟩
  obtain ⟨r, hr⟩ : ∃ r, r = hasB t n v := ⟨_, rfl⟩
  rw [← hr]
  have hc0 := c_CompareVersions
  unfold hasB at hr
  rw [show decide (cmpV t.l v ≤ 0) = decide (0 ≤ cmpV v t.l) by rw [cmpV_swap t.l v]; rw [Bool.eq_iff_iff]; simp] at hr
  generalize cmpV = C at *
  have htab := tab
  have hmo := hmo
  refine PCtr.walk tab hΩ fn_spec_l1InTerm rfl ?_
  generalize PP = P at *
  cbv
  repeat' (first | (refine br (fun h => ?_) (fun h => ?_) <;> cbv) | (refine ⟨VC_drawn htab hΩ hmo (by kernel_rfl) ?_⟩; cbv) | (refine QCall_pure (k := 3) (hc0 _ _) rfl (fits _) rfl ?_; cbv) | (refine call_pure hΩ 3 (hc0 _ _) rfl (fits _) rfl rfl ?_; cbv))
  all_goals (refine .of (congrArg boo ?_); subst hΩ; subst hr; simp_all <;> (intros; omega))
theorem c_l2Terms (l : List Trm) (hl : l.length ≤ 4611686018427387904) : PCtr PP n_spec_l2Terms [.sl false 7 (l.map Trm.enc)] (i64 (firstF trmF l)) := by
  obtain ⟨Ω, hΩ⟩ : ∃ Ω, Ω = std := ⟨_, rfl⟩
  obtain ⟨r, hr⟩ : ∃ r, r = firstF trmF l := ⟨_, rfl⟩
  rw [← hr]
  have hc := c_specTermFault
  obtain ⟨xs, hxs⟩ : ∃ xs, xs = l.map Trm.enc := ⟨_, rfl⟩
  have hlen : xs.length = l.length := by rw [hxs, List.length_map]
  rw [← hxs]
  generalize trmF = F at *
  have htab := tab
  have hmo := hmo
  have hve := verEq
  refine PCtr.walk tab hΩ fn_spec_l2Terms rfl ?_
  generalize PP = P at *
  cbv
  refine loopX htab hΩ (fun i : Nat => ⟨[(0, .sl false 7 xs), (3, .sc (.int .i64 (Ω.int i)))], 19, []⟩) (fun i => i ≤ l.length ∧ r = firstF F (l.drop i)) (fun i => l.length - i) 0
    ⟨Nat.zero_le _, hr⟩ (Sbs.mk rfl rfl ⟨rfl, zeroI hΩ, trivial⟩) ?_
  rintro i ⟨hi, he⟩
  cbv
  refine br (fun h => ?_) (fun h => ?_) <;> cbv
  · replace h := ltI hΩ h
    obtain ⟨c, hcc⟩ := at_of (cs := l) (by omega : i < l.length)
    rw [firstF_at _ hcc] at he
    refine ⟨⟨nnI hΩ⟩, _, rdI hΩ hxs hcc, ?_⟩
    cbv
    refine call_pure hΩ 3 (hc c) rfl (fits _) rfl rfl ?_
    cbv
    refine br (fun g => ?_) (fun g => ?_) <;> cbv
    · exact .of (congrArg i64 (by rw [he, if_pos (neI_t hΩ g)]))
    · rw [if_neg (by rw [neI_f hΩ g]; simp)] at he
      exact ⟨i + 1, ⟨by omega, he⟩, by omega, Sbs.mk rfl rfl ⟨rfl, incI hΩ (by omega), trivial⟩⟩
  · replace h := geI hΩ h
    exact .of (congrArg i64 (by rw [he, List.drop_of_length_le (by omega)]; rfl))
theorem c_l2Gives (o : Pck) (t : Trm) (hl : o.p.length ≤ 4611686018427387904) : PCtr PP n_spec_l2Gives [o.enc false, t.enc] (boo (givesB o t)) := by
  obtain ⟨Ω, hΩ⟩ : ∃ Ω, Ω = std := ⟨_, rfl⟩
  obtain ⟨r, hr⟩ : ∃ r, r = givesB o t := ⟨_, rfl⟩
  rw [← hr]
  obtain ⟨ps, ds, bs, hen, hps, hds, hbs⟩ := enc_raw o
  rw [hen]
  have hc := c_l2Holds o.p t.n hl
  have hc2 := c_l1InTerm t t.n o.v
  rw [← hps] at hc
  unfold givesB at hr
  generalize (o.p.any fun x => x == t.n) = b at *
  generalize hasB t t.n o.v = b2 at *
  have htab := tab
  have hmo := hmo
  have hve := verEq
  refine PCtr.walk tab hΩ fn_spec_l2Gives rfl ?_
  generalize PP = P at *
  cbv
  repeat' (first | (refine br (fun h => ?_) (fun h => ?_) <;> cbv) | (refine call_pure hΩ 3 hc rfl (fits _) rfl rfl ?_; cbv) | (refine call_pure hΩ 3 hc2 rfl (fits _) rfl rfl ?_; cbv) | (refine QCall_pure (k := 3) hc rfl (fits _) rfl ?_; cbv) | (refine QCall_pure (k := 3) hc2 rfl (fits _) rfl ?_; cbv) | (refine ⟨VC_drawn htab hΩ hmo (by kernel_rfl) ?_⟩; cbv))
  all_goals (refine .of (congrArg boo ?_); subst hΩ; subst hr; simp_all)
end Go.Proofs.YtfmcncflooechaaGreatDoor

/- Walks: function values over slices. Plain theorems. -/
set_option linter.unusedVariables false
set_option linter.unusedSimpArgs false
namespace Go.Proofs.YtfmcncflooechaaGreatDoor
open Go Go.Fw
set_option maxRecDepth 100000
theorem mapO_append (f : A → Option A) {xs ys xs' ys' : List A} (h1 : mapO f xs = some xs') (h2 : mapO f ys = some ys') : mapO f (xs ++ ys) = some (xs' ++ ys') := by
  induction xs generalizing xs' with
  | nil => simp only [mapO, Option.some.injEq] at h1; subst h1; exact h2
  | cons x xs ih =>
    simp only [mapO, List.cons_append] at h1 ⊢
    cases hx : f x with
    | none => rw [hx] at h1; simp at h1
    | some y =>
      rw [hx] at h1
      cases hxs : mapO f xs with
      | none => rw [hxs] at h1; simp at h1
      | some us =>
        rw [hxs] at h1
        simp only [Option.some.injEq] at h1
        subst h1
        rw [ih hxs]; rfl
theorem ro_cloA {Ω : Opq} (hΩ : Ω = std) {S : State} {k g : Nat} {xs caps xs' caps' : List A} (h1 : mapO (roO S k) xs = some xs') (h2 : mapO (roO S k) caps = some caps') : mapO (roO S k) (Ω.cloA g xs caps) = some (Ω.cloA g xs' caps') := by
  subst hΩ
  show mapO _ (Fw.cloA g xs caps) = some (Fw.cloA g xs' caps')
  unfold Fw.cloA
  split
  · exact mapO_append _ h1 h2
  · exact mapO_append _ h2 h1
theorem roO_clo (S : State) (k g : Nat) (xs : List A) : roO S (k + 1) (.clo g xs) = (mapO (roO S k) xs).map (A.clo g) := rfl
theorem ro_clo2 {S : State} {k g : Nat} {x x' : A} {caps caps' : List A} (h1 : roO S (k + 1) x = some x') (h2 : mapO (roO S k) caps = some caps') : mapO (roO S (k + 1)) [x, .clo g caps] = some [x', .clo g caps'] := by
  simp [mapO, roO_clo, h1, h2]
/-- What a function value with these captured values answers. -/
structure CloB (P : Program) {α : Type} (enc : α → A) (l : List α) (g : Nat) (caps : List A) (p : α → Bool) : Prop where
  ro : ∀ S k, mapO (roO S (k + 4)) caps = some caps
  no : caps.all noOwn = true
  kl : ∀ r, killL r caps = caps
  run : ∀ s ∈ l, PCtr P (Fw.cloN g) (Fw.cloA g [enc s] caps) (boo (p s))
theorem c_IndexFuncS (l : List (List UInt8)) (hl : l.length ≤ 4611686018427387904) (g : Nat) (caps : List A) (p : List UInt8 → Bool) (hf : CloB PP (str) l g caps p) : PCtr PP n_slices_IndexFunc_L_string_string [.sl false 1 (l.map (str)), .clo g caps] (i64 (idx p l)) := by
  obtain ⟨Ω, hΩ⟩ : ∃ Ω, Ω = std := ⟨_, rfl⟩
  obtain ⟨r, hr⟩ : ∃ r, r = idx p l := ⟨_, rfl⟩
  rw [← hr]
  obtain ⟨xs, hxs⟩ : ∃ xs, xs = l.map (str) := ⟨_, rfl⟩
  have hlen : xs.length = l.length := by rw [hxs, List.length_map]
  rw [← hxs]
  have hro := hf.ro
  have hrun : ∀ s ∈ l, PCtr PP (Ω.cloN g) (Ω.cloA g [str s] caps) (boo (p s)) := by subst hΩ; exact hf.run
  have htab := tab
  have hmo := hmo
  have hve := verEq
  refine PCtr.walk tab hΩ fn_slices_IndexFunc_L_string_string rfl ?_
  generalize PP = P at *
  cbv
  refine loopX htab hΩ (fun i : Nat => ⟨[(0, .sl false 1 xs), (1, .clo g caps), (7, .sc (.int .i64 (Ω.int (Ω.len xs)))), (8, .sc (.int .i64 (Ω.int i)))], 19, []⟩) (fun i => i ≤ l.length ∧ r = idxFrom p i (l.drop i)) (fun i => l.length - i) 0
    ⟨Nat.zero_le _, hr⟩ (Sbs.mk rfl rfl ⟨rfl, rfl, rfl, zeroI hΩ, trivial⟩) ?_
  rintro i ⟨hi, he⟩
  cbv
  refine br (fun h => ?_) (fun h => ?_) <;> cbv
  · replace h := ltI hΩ h
    obtain ⟨c, hcc⟩ := at_of (cs := l) (by omega : i < l.length)
    rw [idxFrom_at _ hcc] at he
    refine ⟨⟨nnI hΩ⟩, _, rdI hΩ hxs hcc, ?_⟩
    cbv
    have h1 := hrun c (List.mem_of_getElem? hcc)

    refine call_pure hΩ 4 h1 (ro_cloA hΩ rfl (hro _ 0)) (fits _) rfl rfl ?_
    cbv
    refine br (fun g => ?_) (fun g => ?_) <;> cbv
    · exact .of (congrArg i64 (by rw [he, if_pos g]; subst hΩ; rfl))
    · rw [if_neg (by rw [show p c = false from g]; simp)] at he
      exact ⟨i + 1, ⟨by omega, he⟩, by omega, Sbs.mk rfl rfl ⟨rfl, rfl, rfl, incI hΩ (by omega), trivial⟩⟩
  · replace h := geI hΩ h
    exact .of (congrArg i64 (by rw [he, List.drop_of_length_le (by omega)]; rfl))
end Go.Proofs.YtfmcncflooechaaGreatDoor

/- Walks: what a package gives. Plain theorems. -/
set_option linter.unusedVariables false
set_option linter.unusedSimpArgs false
namespace Go.Proofs.YtfmcncflooechaaGreatDoor
open Go Go.Fw
set_option maxRecDepth 100000
theorem roV {S : State} {k r len n : Nat} {ys : List A} (hr : Fw.rowAt S.rows r = some ⟨n, ys, false⟩) (hl : len = ys.length) (hf : ys.map frz = ys) : roO S (k + 1) (.vw r 0 len) = some (.sl false n ys) := by
  simp only [roO, hr]
  rw [hl, List.drop_zero, List.take_length, hf]
  rfl
theorem frzStr (l : List (List UInt8)) : (l.map str).map frz = l.map str := by
  rw [List.map_map]; exact List.map_congr_left fun c _ => rfl
end Go.Proofs.YtfmcncflooechaaGreatDoor

/- Walks: faults of packages. Plain theorems. -/
set_option linter.unusedVariables false
set_option linter.unusedSimpArgs false
namespace Go.Proofs.YtfmcncflooechaaGreatDoor
open Go Go.Fw
set_option maxRecDepth 100000
def provFrom (n : List UInt8) (all : List (List UInt8)) : Nat → List (List UInt8) → Int
  | _, [] => 0
  | i, x :: xs => if nameF x ≠ 0 then nameF x else if (x == n || (all.take i).any (· == x)) = true then 6 else provFrom n all (i + 1) xs
theorem provFrom_at (n : List UInt8) {cs : List (List UInt8)} {i : Nat} {c : List UInt8} (h : cs[i]? = some c) : provFrom n cs i (cs.drop i) = if nameF c ≠ 0 then nameF c else if (c == n || (cs.take i).any (· == c)) = true then 6 else provFrom n cs (i + 1) (cs.drop (i + 1)) := by
  obtain ⟨h1, h2⟩ := List.getElem?_eq_some_iff.1 h
  conv => lhs; rw [List.drop_eq_getElem_cons h1, h2, provFrom]
def needF (l : List Trm) : Int := if l.length = 0 then 1 else firstF trmF l
def packF (o : Pck) : Int :=
  if nameF o.n ≠ 0 then nameF o.n else if verF o.v ≠ 0 then verF o.v else if inB o.s 1 200 = false then 3 else
  if 4 < o.p.length ∨ 4 < o.d.length ∨ 4 < o.b.length ∨ o.d.any (fun l => decide (4 < l.length)) = true then 2 else
  if provFrom o.n o.p 0 o.p ≠ 0 then provFrom o.n o.p 0 o.p else if firstF needF o.d ≠ 0 then firstF needF o.d else firstF trmF o.b
structure Pck.Small (o : Pck) : Prop where
  p : o.p.length ≤ 1048576
  d : o.d.length ≤ 1048576
  b : o.b.length ≤ 1048576
  e : ∀ l ∈ o.d, l.length ≤ 1048576
theorem c_specPackFault (o : Pck) (ho : o.Small) : PCtr PP n_spec_PackFault [o.enc false] (i64 (packF o)) := by
  obtain ⟨Ω, hΩ⟩ : ∃ Ω, Ω = std := ⟨_, rfl⟩
  obtain ⟨r, hr⟩ : ∃ r, r = packF o := ⟨_, rfl⟩
  rw [← hr]
  obtain ⟨ps, ds, bs, hen, hps, hds, hbs⟩ := enc_raw o
  rw [hen]
  have hpl : ps.length = o.p.length := by rw [hps, List.length_map]
  have hdl : ds.length = o.d.length := by rw [hds, List.length_map]
  have hbl : bs.length = o.b.length := by rw [hbs, List.length_map]
  have hn0 := c_specNameFault o.n
  have hn : ∀ s, ∃ k, nameF s = k ∧ PCtr PP n_spec_NameFault [str s] (i64 k) := fun s => ⟨_, rfl, c_specNameFault s⟩
  have hv := c_specVersionFault o.v
  have hw := c_l1In o.s 1 200
  have ht := c_l2Terms o.b (by have := ho.b; omega)
  have htl : ∀ l ∈ o.d, PCtr PP n_spec_l2Terms [.sl false 7 (l.map Trm.enc)] (i64 (firstF trmF l)) := fun l hl => c_l2Terms l (by have := ho.e l hl; omega)
  have h1 := ho.p
  have h2 := ho.d
  have h3 := ho.b
  unfold packF at hr
  rw [← hbs] at ht
  obtain ⟨cN, hcN⟩ : ∃ x, nameF o.n = x := ⟨_, rfl⟩
  obtain ⟨cV, hcV⟩ : ∃ x, verF o.v = x := ⟨_, rfl⟩
  obtain ⟨bW, hbW⟩ : ∃ x, inB o.s 1 200 = x := ⟨_, rfl⟩
  obtain ⟨cP, hcP⟩ : ∃ x, provFrom o.n o.p 0 o.p = x := ⟨_, rfl⟩
  obtain ⟨cD, hcD⟩ : ∃ x, firstF needF o.d = x := ⟨_, rfl⟩
  obtain ⟨cB, hcB⟩ : ∃ x, firstF trmF o.b = x := ⟨_, rfl⟩
  have hn1 := hn0
  clear hn0
  rw [hcN] at hr hn1
  rw [hcV] at hr hv
  rw [hbW] at hr hw
  rw [hcB] at hr ht
  rw [hcP, hcD] at hr
  obtain ⟨bA, hbA⟩ : ∃ x, (o.d.any fun l => decide (4 < l.length)) = x := ⟨_, rfl⟩
  rw [hbA] at hr
  have hhas := fun (l : List (List UInt8)) s (hl : l.length ≤ 1048576) => c_l2Holds l s (by omega)
  have htab := tab
  have hmo := hmo
  have hve := verEq
  refine PCtr.walk tab hΩ fn_spec_PackFault rfl ?_
  generalize PP = P at *
  cbv
  refine call_pure hΩ 3 hn1 rfl (fits _) rfl rfl ?_
  cbv
  refine br (fun g => ?_) (fun g => ?_) <;> cbv
  · exact .of (congrArg i64 (by rw [hr, if_pos (neI_t hΩ g)]))
  rw [if_neg (by rw [neI_f hΩ g]; simp)] at hr
  refine call_pure hΩ 3 hv rfl (fits _) rfl rfl ?_
  cbv
  refine br (fun g => ?_) (fun g => ?_) <;> cbv
  · exact .of (congrArg i64 (by rw [hr, if_pos (neI_t hΩ g)]))
  rw [if_neg (by rw [neI_f hΩ g]; simp)] at hr
  refine call_pure hΩ 3 hw rfl (fits _) rfl rfl ?_
  cbv
  refine br (fun g => ?_) (fun g => ?_) <;> cbv
  · exact .of (congrArg i64 (by rw [hr, if_pos (notT' hΩ g)]))
  rw [if_neg (by rw [notF' hΩ g]; simp)] at hr
  refine br (fun q1 => ?_) (fun q1 => ?_) <;> cbv
  · exact .of (congrArg i64 (by rw [hr, if_pos (.inl (by subst hΩ; have q1 : (4 : Int) < ps.length := gt_t q1; omega))]))
  refine br (fun q2 => ?_) (fun q2 => ?_) <;> cbv
  · exact .of (congrArg i64 (by rw [hr, if_pos (.inr (.inl (by subst hΩ; have q2 : (4 : Int) < ds.length := gt_t q2; omega)))]))
  refine br (fun q3 => ?_) (fun q3 => ?_) <;> cbv
  · exact .of (congrArg i64 (by rw [hr, if_pos (.inr (.inr (.inl (by subst hΩ; have q3 : (4 : Int) < bs.length := gt_t q3; omega))))]))
  have q1 : o.p.length ≤ 4 := by subst hΩ; have q1 : (ps.length : Int) ≤ 4 := gt_f q1; omega
  have q2 : o.d.length ≤ 4 := by subst hΩ; have q2 : (ds.length : Int) ≤ 4 := gt_f q2; omega
  have q3 : o.b.length ≤ 4 := by subst hΩ; have q3 : (bs.length : Int) ≤ 4 := gt_f q3; omega
  refine loopX htab hΩ (fun i : Nat => ⟨[(1, .pt 0 0 0), (5, .sc (.int .i64 (Ω.int i)))], 118, [some ⟨8, [.agg [str o.n, i64 o.v.a, i64 o.v.b, i64 o.v.c, i64 o.s, .sl false 1 ps, .sl false 1 ds, .sl false 7 bs]], true⟩]⟩) (fun i => i ≤ o.d.length ∧ bA = (o.d.drop i).any (fun l => decide (4 < l.length))) (fun i => o.d.length - i) 0
    ⟨Nat.zero_le _, hbA.symm⟩ (Sbs.mk rfl rfl ⟨rfl, zeroI hΩ, trivial⟩) ?_
  rintro i ⟨hi, he⟩
  cbv
  refine br (fun h => ?_) (fun h => ?_) <;> cbv
  · replace h := ltI hΩ h
    obtain ⟨c, hcc⟩ := at_of (cs := o.d) (by omega : i < o.d.length)
    rw [any_at _ hcc] at he
    obtain ⟨cs, hen2, hcs⟩ : ∃ cs, encTs false c = .sl false 7 cs ∧ cs = c.map Trm.enc := ⟨_, rfl, rfl⟩
    have hcl : cs.length = c.length := by rw [hcs, List.length_map]
    refine ⟨⟨nnI hΩ⟩, _, (rdI hΩ hds hcc).trans (congrArg some hen2), ?_⟩
    cbv
    refine br (fun g => ?_) (fun g => ?_) <;> cbv
    · refine .of (congrArg i64 ?_)
      have g : 4 < c.length := by subst hΩ; have g : (4 : Int) < cs.length := gt_t g; omega
      rw [decide_eq_true g, Bool.true_or] at he
      rw [hr, if_pos (.inr (.inr (.inr he)))]
    have g : ¬ 4 < c.length := by subst hΩ; have g : (cs.length : Int) ≤ 4 := gt_f g; omega
    rw [decide_eq_false g, Bool.false_or] at he
    exact ⟨i + 1, ⟨by omega, he⟩, by omega, Sbs.mk rfl rfl ⟨rfl, incI hΩ (by omega), trivial⟩⟩
  · replace h := geI hΩ h
    rw [List.drop_of_length_le (by omega), List.any_nil] at he
    rw [if_neg (by rw [he]; simp; omega)] at hr
    clear he h hi
    refine loopX htab hΩ (fun i : Nat => ⟨[(1, .pt 0 0 0), (6, .sc (.int .i64 (Ω.int i)))], 118, [some ⟨8, [.agg [str o.n, i64 o.v.a, i64 o.v.b, i64 o.v.c, i64 o.s, .sl false 1 ps, .sl false 1 ds, .sl false 7 bs]], true⟩]⟩) (fun i => i ≤ o.p.length ∧ cP = provFrom o.n o.p i (o.p.drop i)) (fun i => o.p.length - i) 0
      ⟨Nat.zero_le _, hcP.symm⟩ (Sbs.mk rfl rfl ⟨rfl, zeroI hΩ, trivial⟩) ?_
    rintro i ⟨hi, he⟩
    cbv
    refine br (fun h => ?_) (fun h => ?_) <;> cbv
    · replace h := ltI hΩ h
      obtain ⟨c, hcc⟩ := at_of (cs := o.p) (by omega : i < o.p.length)
      rw [provFrom_at _ hcc] at he
      refine ⟨⟨nnI hΩ⟩, _, rdI hΩ hps hcc, ?_⟩
      cbv
      obtain ⟨kc, hkc, hnc⟩ := hn c
      rw [hkc] at he
      refine call_pure hΩ 3 hnc rfl (fits _) rfl rfl ?_
      cbv
      refine br (fun g => ?_) (fun g => ?_) <;> cbv
      · refine .of (congrArg i64 ?_)
        have g := neI_t hΩ g
        rw [if_pos g] at he
        rw [hr, if_pos (by rw [he]; exact g), he]
      rw [if_neg (by rw [neI_f hΩ g]; simp)] at he
      have hh : PCtr P n_spec_l2Holds [.sl false 1 (Ω.seg 0 (Ω.nat (Ω.int i)) ps), str c] (boo ((o.p.take i).any (· == c))) := by
        subst hΩ
        have := hhas (o.p.take i) c (by simp; omega)
        rw [List.map_take, ← hps] at this
        exact this
      generalize (o.p.take i).any (· == c) = bh at *
      refine ⟨VC_drawn htab hΩ hmo (by kernel_rfl) ?_⟩
      cbv
      refine ⟨⟨nnI hΩ⟩, _, rdI hΩ hps hcc, ?_⟩
      cbv
      refine br (fun g1 => ?_) (fun g1 => ?_) <;> cbv
      · refine .of (congrArg i64 ?_)
        rw [if_pos (by rw [show (c == o.n) = true by subst hΩ; exact g1]; rfl)] at he
        rw [hr, if_pos (by rw [he]; decide), he]
      have g1 : (c == o.n) = false := by subst hΩ; exact g1
      rw [g1, Bool.false_or] at he
      refine ⟨⟨trivial, nnI hΩ, Nat.zero_le _, by subst hΩ; show i ≤ ps.length; omega⟩, ?_⟩
      refine ⟨⟨nnI hΩ⟩, _, rdI hΩ hps hcc, ?_⟩
      cbv
      refine QCall_pure (k := 3) hh rfl (fits _) rfl ?_
      cbv
      refine br (fun g2 => ?_) (fun g2 => ?_) <;> cbv
      · refine .of (congrArg i64 ?_)
        rw [if_pos (by subst hΩ; exact g2)] at he
        rw [hr, if_pos (by rw [he]; decide), he]
      rw [if_neg (by rw [show bh = false by subst hΩ; exact g2]; simp)] at he
      exact ⟨i + 1, ⟨by omega, he⟩, by omega, Sbs.mk rfl rfl ⟨rfl, incI hΩ (by omega), trivial⟩⟩
    · replace h := geI hΩ h
      rw [List.drop_of_length_le (by omega), provFrom] at he
      rw [if_neg (by rw [he]; simp)] at hr
      clear he h hi
      refine loopX htab hΩ (fun i : Nat => ⟨[(1, .pt 0 0 0), (8, .sc (.int .i64 (Ω.int i)))], 118, [some ⟨8, [.agg [str o.n, i64 o.v.a, i64 o.v.b, i64 o.v.c, i64 o.s, .sl false 1 ps, .sl false 1 ds, .sl false 7 bs]], true⟩]⟩) (fun i => i ≤ o.d.length ∧ cD = firstF needF (o.d.drop i)) (fun i => o.d.length - i) 0
        ⟨Nat.zero_le _, hcD.symm⟩ (Sbs.mk rfl rfl ⟨rfl, zeroI hΩ, trivial⟩) ?_
      rintro i ⟨hi, he⟩
      cbv
      refine br (fun h => ?_) (fun h => ?_) <;> cbv
      · replace h := ltI hΩ h
        obtain ⟨c, hcc⟩ := at_of (cs := o.d) (by omega : i < o.d.length)
        rw [firstF_at _ hcc] at he
        obtain ⟨cs, hen2, hcs⟩ : ∃ cs, encTs false c = .sl false 7 cs ∧ cs = c.map Trm.enc := ⟨_, rfl, rfl⟩
        have hcl : cs.length = c.length := by rw [hcs, List.length_map]
        refine ⟨⟨nnI hΩ⟩, _, (rdI hΩ hds hcc).trans (congrArg some hen2), ?_⟩
        cbv
        refine br (fun g => ?_) (fun g => ?_) <;> cbv
        · refine .of (congrArg i64 ?_)
          have g : c.length = 0 := by subst hΩ; have g : (cs.length : Int) = 0 := eq_t g; omega
          rw [hr, if_pos] <;> rw [he, show needF c = 1 by rw [needF, if_pos g]] <;> simp
        have g : c.length ≠ 0 := by subst hΩ; have g : (cs.length : Int) ≠ 0 := eq_f g; omega
        have hnf : needF c = firstF trmF c := by rw [needF, if_neg g]
        have htc := htl c (List.mem_of_getElem? hcc)
        rw [← hcs, ← hnf] at htc
        generalize needF c = kc at *
        refine ⟨⟨nnI hΩ⟩, _, (rdI hΩ hds hcc).trans (congrArg some hen2), ?_⟩
        cbv
        refine call_pure hΩ 3 htc rfl (fits _) rfl rfl ?_
        cbv
        refine br (fun g => ?_) (fun g => ?_) <;> cbv
        · refine .of (congrArg i64 ?_)
          have g := neI_t hΩ g
          rw [if_pos g] at he
          rw [hr, if_pos (by rw [he]; exact g), he]
        · rw [if_neg (by rw [neI_f hΩ g]; simp)] at he
          exact ⟨i + 1, ⟨by omega, he⟩, by omega, Sbs.mk rfl rfl ⟨rfl, incI hΩ (by omega), trivial⟩⟩
      · replace h := geI hΩ h
        rw [List.drop_of_length_le (by omega), firstF] at he
        rw [if_neg (by rw [he]; simp)] at hr
        refine call_pure hΩ 3 ht rfl (fits _) rfl rfl ?_
        cbv
        exact .of (congrArg i64 hr.symm)
end Go.Proofs.YtfmcncflooechaaGreatDoor

/- Walks: faults of catalogs and sets. Plain theorems. -/
set_option linter.unusedVariables false
set_option linter.unusedSimpArgs false
namespace Go.Proofs.YtfmcncflooechaaGreatDoor
open Go Go.Fw
set_option maxRecDepth 100000
def isP (n : List UInt8) (v : Ver) (p : Pck) : Bool := p.n == n && decide (p.v = v)
def findF (c : List Pck) (n : List UInt8) (v : Ver) : Int := idx (isP n v) c
def catFrom (all : List Pck) : Nat → List Pck → Int
  | _, [] => 0
  | i, x :: xs => if packF x ≠ 0 then packF x else if 0 ≤ findF (all.take i) x.n x.v then 6 else catFrom all (i + 1) xs
theorem catFrom_at {cs : List Pck} {i : Nat} {c : Pck} (h : cs[i]? = some c) : catFrom cs i (cs.drop i) = if packF c ≠ 0 then packF c else if 0 ≤ findF (cs.take i) c.n c.v then 6 else catFrom cs (i + 1) (cs.drop (i + 1)) := by
  obtain ⟨h1, h2⟩ := List.getElem?_eq_some_iff.1 h
  conv => lhs; rw [List.drop_eq_getElem_cons h1, h2, catFrom]
def catF (c : List Pck) : Int := if 24 < c.length then 2 else catFrom c 0 c
def riseAll (s : List Int) : Nat → List Int → Bool
  | _, [] => true
  | i, x :: xs => (i == 0 || decide (s.getD (i - 1) 0 < x)) && riseAll s (i + 1) xs
def setOk (m : Int) (s : List Int) : Nat → List Int → Bool
  | _, [] => true
  | i, x :: xs => (inB x 0 m && (i == 0 || decide (s.getD (i - 1) 0 < x))) && setOk m s (i + 1) xs
theorem setOk_eq (m : Int) (s : List Int) : ∀ (l : List Int) (i : Nat), setOk m s i l = (riseAll s i l && l.all fun x => inB x 0 m)
  | [], i => rfl
  | x :: xs, i => by
    rw [setOk, riseAll, List.all_cons, setOk_eq m s xs (i + 1)]
    generalize inB x 0 m = a
    generalize (i == 0 || decide (s.getD (i - 1) 0 < x)) = b
    generalize riseAll s (i + 1) xs = c
    generalize (xs.all fun x => inB x 0 m) = d
    revert a b c d
    decide
theorem setOk_at (m : Int) {s : List Int} {i : Nat} {c : Int} (h : s[i]? = some c) : setOk m s i (s.drop i) = ((inB c 0 m && (i == 0 || decide (s.getD (i - 1) 0 < c))) && setOk m s (i + 1) (s.drop (i + 1))) := by
  obtain ⟨h1, h2⟩ := List.getElem?_eq_some_iff.1 h
  conv => lhs; rw [List.drop_eq_getElem_cons h1, h2, setOk]
theorem riseAll_at {s : List Int} {i : Nat} {c : Int} (h : s[i]? = some c) : riseAll s i (s.drop i) = ((i == 0 || decide (s.getD (i - 1) 0 < c)) && riseAll s (i + 1) (s.drop (i + 1))) := by
  obtain ⟨h1, h2⟩ := List.getElem?_eq_some_iff.1 h
  conv => lhs; rw [List.drop_eq_getElem_cons h1, h2, riseAll]
theorem subI {Ω : Opq} (hΩ : Ω = std) {i : Nat} (h0 : 0 < i) (h : i ≤ 4611686018427387904) : 0 ≤ Ω.ar .sub .i64 (Ω.int i) 1 ∧ (Ω.ar .sub .i64 (Ω.int i) 1).toNat = i - 1 := by
  subst hΩ
  show 0 ≤ IntKind.i64.wrap ((i : Int) - 1) ∧ (IntKind.i64.wrap ((i : Int) - 1)).toNat = i - 1
  rw [wrap64 (by omega) (by omega)]
  omega
def setF (c : List Pck) (s : List Int) : Int := if catF c ≠ 0 then catF c else if setOk ((c.length : Int) - 1) s 0 s then 0 else 1
def encP (c : List Pck) : A := .sl false 8 (c.map (Pck.enc false))
theorem c_l2Find (l : List Pck) (n : List UInt8) (v : Ver) (hl : l.length ≤ 1048576) : PCtr PP n_spec_l2Find [encP l, str n, v.enc] (i64 (findF l n v)) := by
  obtain ⟨Ω, hΩ⟩ : ∃ Ω, Ω = std := ⟨_, rfl⟩
  obtain ⟨r, hr⟩ : ∃ r, r = findF l n v := ⟨_, rfl⟩
  rw [← hr]
  obtain ⟨xs, hxs⟩ : ∃ xs, xs = l.map (Pck.enc false) := ⟨_, rfl⟩
  have hlen : xs.length = l.length := by rw [hxs, List.length_map]
  unfold encP
  rw [← hxs]
  have hcv := c_CompareVersions
  have htab := tab
  have hmo := hmo
  have hve := verEq
  refine PCtr.walk tab hΩ fn_spec_l2Find rfl ?_
  generalize PP = P at *
  cbv
  refine loopX htab hΩ (fun i : Nat => ⟨[(0, .sl false 8 xs), (1, .sc (.string (mkS n))), (5, .pt 0 0 0), (7, .sc (.int .i64 (Ω.int i)))], 32, [some ⟨3, [v.enc], true⟩]⟩) (fun i => i ≤ l.length ∧ r = idxFrom (isP n v) i (l.drop i)) (fun i => l.length - i) 0
    ⟨Nat.zero_le _, hr⟩ (Sbs.mk rfl rfl ⟨rfl, rfl, rfl, zeroI hΩ, trivial⟩) ?_
  rintro i ⟨hi, he⟩
  cbv
  refine br (fun h => ?_) (fun h => ?_) <;> cbv
  · replace h := ltI hΩ h
    obtain ⟨c, hcc⟩ := at_of (cs := l) (by omega : i < l.length)
    rw [idxFrom_at _ hcc] at he
    refine ⟨VC_drawn htab hΩ hmo (by kernel_rfl) ?_⟩
    cbv
    obtain ⟨ps, ds, bs, hen, hps, hds, hbs⟩ := enc_raw c
    refine ⟨⟨nnI hΩ⟩, _, (rdI hΩ hxs hcc).trans (congrArg some hen), ?_⟩
    cbv
    refine br (fun g => ?_) (fun g => ?_) <;> cbv
    · have g : (c.n == n) = true := by subst hΩ; exact g
      refine ⟨⟨nnI hΩ⟩, _, (rdI hΩ hxs hcc).trans (congrArg some hen), ?_⟩
      cbv
      have hcv := hcv c.v v
      have hp : isP n v c = decide (cmpV c.v v = 0) := by rw [isP, g, Bool.true_and]; congr 1; rw [cmpV_zero]
      generalize cmpV c.v v = k at *
      rw [hp] at he
      refine QCall_pure (k := 3) hcv rfl (fits _) rfl ?_
      cbv
      refine br (fun g2 => ?_) (fun g2 => ?_) <;> cbv
      · exact .of (congrArg i64 (by rw [he, if_pos (by subst hΩ; have := eq_t g2; simp [this])]; subst hΩ; rfl))
      · rw [if_neg (by subst hΩ; have := eq_f g2; simp [this])] at he
        exact ⟨i + 1, ⟨by omega, he⟩, by omega, Sbs.mk rfl rfl ⟨rfl, rfl, rfl, incI hΩ (by omega), trivial⟩⟩
    · have g : (c.n == n) = false := by subst hΩ; exact g
      rw [if_neg (by rw [isP, g]; simp)] at he
      exact ⟨i + 1, ⟨by omega, he⟩, by omega, Sbs.mk rfl rfl ⟨rfl, rfl, rfl, incI hΩ (by omega), trivial⟩⟩
  · replace h := geI hΩ h
    exact .of (congrArg i64 (by rw [he, List.drop_of_length_le (by omega)]; rfl))
theorem c_specCatalogFault (l : List Pck) (hl : l.length ≤ 1048576) (hs : ∀ o ∈ l, o.Small) : PCtr PP n_spec_CatalogFault [encP l] (i64 (catF l)) := by
  obtain ⟨Ω, hΩ⟩ : ∃ Ω, Ω = std := ⟨_, rfl⟩
  obtain ⟨r, hr⟩ : ∃ r, r = catF l := ⟨_, rfl⟩
  rw [← hr]
  have hpk : ∀ o ∈ l, PCtr PP n_spec_PackFault [o.enc false] (i64 (packF o)) := fun o ho => c_specPackFault o (hs o ho)
  have hfi := fun (i : Nat) n v => c_l2Find (l.take i) n v (by simp; omega)
  unfold encP at hfi
  obtain ⟨xs, hxs⟩ : ∃ xs, xs = l.map (Pck.enc false) := ⟨_, rfl⟩
  have hlen : xs.length = l.length := by rw [hxs, List.length_map]
  unfold encP
  rw [← hxs]
  rw [show (∀ (i : Nat) n v, PCtr PP n_spec_l2Find [.sl false 8 ((l.take i).map (Pck.enc false)), str n, Ver.enc v] (i64 (findF (l.take i) n v))) = (∀ (i : Nat) n v, PCtr PP n_spec_l2Find [.sl false 8 (xs.take i), str n, Ver.enc v] (i64 (findF (l.take i) n v))) by simp only [List.map_take, ← hxs]] at hfi
  unfold catF at hr
  have htab := tab
  have hmo := hmo
  have hve := verEq
  refine PCtr.walk tab hΩ fn_spec_CatalogFault rfl ?_
  generalize PP = P at *
  cbv
  refine br (fun g => ?_) (fun g => ?_) <;> cbv
  · exact .of (congrArg i64 (by rw [hr, if_pos (by subst hΩ; have g : (24 : Int) < xs.length := gt_t g; omega)]))
  rw [if_neg (by subst hΩ; have g : (xs.length : Int) ≤ 24 := gt_f g; omega)] at hr
  refine loopX htab hΩ (fun i : Nat => ⟨[(0, .sl false 8 xs), (3, .sc (.int .i64 (Ω.int i)))], 37, []⟩) (fun i => i ≤ l.length ∧ r = catFrom l i (l.drop i)) (fun i => l.length - i) 0
    ⟨Nat.zero_le _, hr⟩ (Sbs.mk rfl rfl ⟨rfl, zeroI hΩ, trivial⟩) ?_
  rintro i ⟨hi, he⟩
  cbv
  refine br (fun h => ?_) (fun h => ?_) <;> cbv
  · replace h := ltI hΩ h
    obtain ⟨c, hcc⟩ := at_of (cs := l) (by omega : i < l.length)
    rw [catFrom_at hcc] at he
    obtain ⟨ps, ds, bs, hen, hps, hds, hbs⟩ := enc_raw c
    refine ⟨⟨nnI hΩ⟩, _, (rdI hΩ hxs hcc).trans (congrArg some hen), ?_⟩
    cbv
    have hp := hpk c (List.mem_of_getElem? hcc)
    rw [hen] at hp
    generalize packF c = kc at *
    refine call_pure hΩ 3 hp rfl (fits _) rfl rfl ?_
    cbv
    refine br (fun g => ?_) (fun g => ?_) <;> cbv
    · exact .of (congrArg i64 (by rw [he, if_pos (neI_t hΩ g)]))
    rw [if_neg (by rw [neI_f hΩ g]; simp)] at he
    refine ⟨VC_drawn htab hΩ hmo (by kernel_rfl) ?_⟩
    cbv
    refine ⟨⟨trivial, nnI hΩ, Nat.zero_le _, by subst hΩ; show i ≤ xs.length; omega⟩, ?_⟩
    have hf : PCtr P n_spec_l2Find [.sl false 8 (Ω.seg 0 (Ω.nat (Ω.int i)) xs), str c.n, c.v.enc] (i64 (findF (l.take i) c.n c.v)) := by subst hΩ; exact hfi i c.n c.v
    generalize findF (l.take i) c.n c.v = kf at *
    refine ⟨⟨nnI hΩ⟩, _, (rdI hΩ hxs hcc).trans (congrArg some hen), ?_⟩
    cbv
    refine ⟨⟨nnI hΩ⟩, _, (rdI hΩ hxs hcc).trans (congrArg some hen), ?_⟩
    cbv
    refine QCall_pure (k := 3) hf rfl (fits _) rfl ?_
    cbv
    refine br (fun g2 => ?_) (fun g2 => ?_) <;> cbv
    · exact .of (congrArg i64 (by rw [he, if_pos (geI_t hΩ g2)]))
    · rw [if_neg (Int.not_le.2 (geI_f hΩ g2))] at he
      exact ⟨i + 1, ⟨by omega, he⟩, by omega, Sbs.mk rfl rfl ⟨rfl, incI hΩ (by omega), trivial⟩⟩
  · replace h := geI hΩ h
    exact .of (congrArg i64 (by rw [he, List.drop_of_length_le (by omega)]; rfl))
theorem c_l3Set (l : List Pck) (s : List Int) (hl : l.length ≤ 1048576) (hs : s.length ≤ 1048576) : PCtr PP n_spec_l3Set [encP l, .sl false 1 (s.map i64)] (boo (setOk ((l.length : Int) - 1) s 0 s)) := by
  obtain ⟨Ω, hΩ⟩ : ∃ Ω, Ω = std := ⟨_, rfl⟩
  obtain ⟨r, hr⟩ : ∃ r, r = setOk ((l.length : Int) - 1) s 0 s := ⟨_, rfl⟩
  rw [← hr]
  obtain ⟨xs, hxs⟩ : ∃ xs, xs = s.map i64 := ⟨_, rfl⟩
  have hlen : xs.length = s.length := by rw [hxs, List.length_map]
  obtain ⟨cs, hcs⟩ : ∃ cs, cs = l.map (Pck.enc false) := ⟨_, rfl⟩
  have hcl : cs.length = l.length := by rw [hcs, List.length_map]
  unfold encP
  rw [← hcs]
  rw [← hxs]
  have hLm : Ω.ar .sub .i64 (Ω.int (Ω.len cs)) 1 = (l.length : Int) - 1 := by subst hΩ; show IntKind.i64.wrap ((cs.length : Int) - 1) = _; rw [hcl]; exact wrap64 (by omega) (by omega)
  have hw : ∀ k, PCtr PP n_spec_l1In [i64 k, i64 0, i64 (Ω.ar .sub .i64 (Ω.int (Ω.len cs)) 1)] (boo (inB k 0 ((l.length : Int) - 1))) := fun k => by rw [hLm]; exact c_l1In k 0 _
  generalize ((l.length : Int) - 1) = m at *
  have htab := tab
  have hmo := hmo
  have hve := verEq
  refine PCtr.walk tab hΩ fn_spec_l3Set rfl ?_
  generalize PP = P at *
  cbv
  refine loopX htab hΩ (fun i : Nat => ⟨[(0, .sl false 8 cs), (1, .sl false 1 xs), (5, .sc (.int .i64 (Ω.int i)))], 37, []⟩) (fun i => i ≤ s.length ∧ r = setOk m s i (s.drop i)) (fun i => s.length - i) 0
    ⟨Nat.zero_le _, hr⟩ (Sbs.mk rfl rfl ⟨rfl, rfl, zeroI hΩ, trivial⟩) ?_
  rintro i ⟨hi, he⟩
  cbv
  refine br (fun h => ?_) (fun h => ?_) <;> cbv
  · replace h := ltI hΩ h
    obtain ⟨c, hcc⟩ := at_of (cs := s) (by omega : i < s.length)
    rw [setOk_at _ hcc] at he
    refine ⟨VC_drawn htab hΩ hmo (by kernel_rfl) ?_⟩
    cbv
    refine ⟨⟨nnI hΩ⟩, _, rdI hΩ hxs hcc, ?_⟩
    cbv
    have hw1 := hw c
    generalize inB c 0 m = B at *
    refine QCall_pure (k := 3) hw1 rfl (fits _) rfl ?_
    cbv
    refine br (fun g => ?_) (fun g => ?_) <;> cbv
    · exact .of (congrArg boo (by rw [he, notT' hΩ g]; rfl))
    rw [notF' hΩ g, Bool.true_and] at he
    refine br (fun g2 => ?_) (fun g2 => ?_) <;> cbv
    · have hi0 : 0 < i := by subst hΩ; have g2 : (0 : Int) < i := gt_t g2; omega
      have hs1 := subI hΩ hi0 (by omega)
      obtain ⟨d, hd⟩ := at_of (cs := s) (by omega : i - 1 < s.length)
      rw [show (i == 0) = false by simp; omega, Bool.false_or, List.getD_eq_getElem?_getD, hd] at he
      refine ⟨⟨nnI hΩ⟩, _, rdI hΩ hxs hcc, ?_⟩
      cbv
      refine ⟨⟨hs1.1⟩, i64 d, by rw [hs1.2, hxs, List.getElem?_map, hd]; rfl, ?_⟩
      cbv
      refine br (fun g3 => ?_) (fun g3 => ?_) <;> cbv
      · exact .of (congrArg boo (by rw [he]; subst hΩ; have g3 : c ≤ d := le_t g3; rw [show decide ((some d).getD 0 < c) = false by simp; omega]; rfl))
      · rw [show decide ((some d).getD 0 < c) = true by subst hΩ; have g3 : d < c := le_f g3; simpa using g3, Bool.true_and] at he
        exact ⟨i + 1, ⟨by omega, he⟩, by omega, Sbs.mk rfl rfl ⟨rfl, rfl, incI hΩ (by omega), trivial⟩⟩
    · have hi0 : i = 0 := by subst hΩ; have g2 : (i : Int) ≤ 0 := gt_f g2; omega
      rw [show (i == 0) = true by simpa using hi0, Bool.true_or, Bool.true_and] at he
      refine br (fun g4 => ?_) (fun g4 => ?_)
      · subst hΩ; cases (show false = true from g4)
      cbv
      exact ⟨i + 1, ⟨by omega, he⟩, by omega, Sbs.mk rfl rfl ⟨rfl, rfl, incI hΩ (by omega), trivial⟩⟩
  · replace h := geI hΩ h
    exact .of (congrArg boo (by rw [he, List.drop_of_length_le (by omega)]; rfl))
theorem c_specSetFault (l : List Pck) (s : List Int) (hl : l.length ≤ 1048576) (ho : ∀ o ∈ l, o.Small) (hs : s.length ≤ 1048576) : PCtr PP n_spec_SetFault [encP l, .sl false 1 (s.map i64)] (i64 (setF l s)) := by
  obtain ⟨Ω, hΩ⟩ : ∃ Ω, Ω = std := ⟨_, rfl⟩
  obtain ⟨r, hr⟩ : ∃ r, r = setF l s := ⟨_, rfl⟩
  rw [← hr]
  have hc := c_specCatalogFault l hl ho
  have hp := c_l3Set l s hl hs
  unfold setF at hr
  generalize catF l = k at *
  obtain ⟨xs, hxs⟩ : ∃ xs, xs = s.map i64 := ⟨_, rfl⟩
  have hlen : xs.length = s.length := by rw [hxs, List.length_map]
  obtain ⟨cs, hcs⟩ : ∃ cs, cs = l.map (Pck.enc false) := ⟨_, rfl⟩
  have hcl : cs.length = l.length := by rw [hcs, List.length_map]
  unfold encP at hc hp ⊢
  rw [← hcs] at hc hp ⊢
  rw [← hxs] at hp ⊢
  generalize setOk ((l.length : Int) - 1) s 0 s = b at *
  have htab := tab
  have hmo := hmo
  have hve := verEq
  refine PCtr.walk tab hΩ fn_spec_SetFault rfl ?_
  generalize PP = P at *
  cbv
  refine call_pure hΩ 3 hc rfl (fits _) rfl rfl ?_
  cbv
  refine br (fun g => ?_) (fun g => ?_) <;> cbv
  · exact .of (congrArg i64 (by rw [hr, if_pos (neI_t hΩ g)]))
  rw [if_neg (by rw [neI_f hΩ g]; simp)] at hr
  refine call_pure hΩ 3 hp rfl (fits _) rfl rfl ?_
  cbv
  refine br (fun g => ?_) (fun g => ?_) <;> cbv
  · exact .of (congrArg i64 (by rw [hr, notT' hΩ g]; rfl))
  · exact .of (congrArg i64 (by rw [hr, notF' hΩ g]; rfl))
end Go.Proofs.YtfmcncflooechaaGreatDoor

/- Walks: sets by a function value; who is barred. Plain theorems. -/
set_option linter.unusedVariables false
set_option linter.unusedSimpArgs false
namespace Go.Proofs.YtfmcncflooechaaGreatDoor
open Go Go.Fw
set_option maxRecDepth 100000
theorem take_set_add {ys : List A} {i : Nat} {z : A} (h : i < ys.length) : (ys.set i z).take (i + 1) = ys.take i ++ [z] := by
  rw [List.take_add_one, List.getElem?_set_self h, List.take_set_of_le (Nat.le_refl _)]; rfl
end Go.Proofs.YtfmcncflooechaaGreatDoor

/- Regions that draw their order, of which a first part only reads but for one slice that is made, and the rest stands in one order. Plain theorems, no condition. -/
set_option linter.unusedVariables false
set_option linter.unusedSimpArgs false
namespace Go.Fw
section
variable {P : Program}
def BelowS (P : Program) {α : Type} (m : Sem α) : Prop := ∀ w v w', m.run P w = .ok v w' → Go.RowKit.Below w.heap.size w w'
theorem BelowS.pure {α : Type} (x : α) : BelowS P (Pure.pure x : Sem α) := fun w v w' h => by
  simp only [Sem.run_pure, Result.ok.injEq] at h
  rw [← h.2]; exact .refl _ _
theorem BelowS.bind {α β : Type} {m : Sem α} {f : α → Sem β} (h : BelowS P m) (hf : ∀ x, BelowS P (f x)) : BelowS P (m >>= f) := fun w v w' hr => by
  rw [Sem.run_bind] at hr
  generalize hm : m.run P w = r at hr
  cases r with
  | halt => simp [Result.andThen] at hr
  | ok x w1 =>
    simp only [Result.andThen_ok] at hr
    have h1 := h _ _ _ hm
    have h2 := hf x _ _ _ hr
    exact ⟨h2.os.trans h1.os, h2.tape.trans h1.tape, h2.output.trans h1.output, Nat.le_trans h1.size h2.size, fun b hb => (h2.block b (Nat.lt_of_lt_of_le hb h1.size)).trans (h1.block b hb)⟩
theorem BelowS.same {α : Type} {m : Sem α} (h : ∀ w v w', m.run P w = .ok v w' → w' = w) : BelowS P m := fun w v w' hr => by
  rw [h _ _ _ hr]; exact .refl _ _
end
/-! Any order, told by what each operation yields. -/
section
variable {P : Program} {ops : Array Oper} {md : Region.Mode} {Y : Nat → Value → Sem Next → Prop}
def gOp (ops : Array Oper) (Y : Nat → Value → Sem Next → Prop) (i : Nat) (K : Act → Prop) (a : Act) : Prop :=
  match ops[i]? with
  | none => K a
  | some o => if Region.wanted o (yielded ops a.tmps) then ∃ v, Y i v (execOp a.eval o) ∧ K (a.put o.dst v) else K (a.put o.dst undef)
def YG (ops : Array Oper) (Y : Nat → Value → Sem Next → Prop) (i : Nat) (o : Oper) (v : Value) (a : Act) : Prop :=
  (Region.wanted o (yielded ops a.tmps) = true ∧ Y i v (execOp a.eval o)) ∨ (Region.wanted o (yielded ops a.tmps) = false ∧ v = undef)
theorem YG.gOp {i : Nat} {o : Oper} {v : Value} {a : Act} (hi : ops[i]? = some o) (hy : YG ops Y i o v a) {K : Act → Prop} (h : K (a.put o.dst v)) : Fw.gOp ops Y i K a := by
  unfold Fw.gOp
  simp only [hi]
  rcases hy with ⟨hw, hv⟩ | ⟨hw, rfl⟩
  · simp only [hw, if_true]; exact ⟨v, hv, h⟩
  · simp only [hw, Bool.false_eq_true, if_false]; exact h
def anyG (md : Region.Mode) (ops : Array Oper) (Y : Nat → Value → Sem Next → Prop) (n : Nat) (L : Array Bool → Act → Prop) : Nat → Array Bool → Act → Prop
  | 0, listed, a => L listed a
  | f + 1, listed, a => Region.ready md ops listed ≠ [] ∧ ∀ i ∈ Region.ready md ops listed, i < n ∧ gOp ops Y i (anyG md ops Y n L f (listed.setIfInBounds i true)) a
/-! The reckoning. -/
variable {T : Nat → Option TI} {S : State} {o : Oper}
end
end Go.Fw

/- Sets with a code. Plain theorems. -/
set_option linter.unusedVariables false
set_option linter.unusedSimpArgs false
namespace Go.Proofs.YtfmcncflooechaaGreatDoor
open Go Go.Fw
set_option maxRecDepth 100000
def Pck.zero : Pck := ⟨[], Ver.zero, 0, [], [], []⟩
def pk (c : List Pck) (k : Int) : Pck := c.getD k.toNat Pck.zero
theorem pk_at {c : List Pck} {k : Int} (h : inB k 0 ((c.length : Int) - 1) = true) : 0 ≤ k ∧ k.toNat < c.length ∧ c[k.toNat]? = some (pk c k) ∧ pk c k ∈ c := by
  unfold inB at h
  simp only [Bool.and_eq_true, decide_eq_true_eq] at h
  have hk : k.toNat < c.length := by omega
  refine ⟨h.1, hk, ?_, ?_⟩
  · rw [pk, List.getD_eq_getElem?_getD, List.getElem?_eq_getElem hk]; rfl
  · rw [pk, List.getD_eq_getElem?_getD, List.getElem?_eq_getElem hk]; exact List.getElem_mem hk
theorem setF_in {c : List Pck} {s : List Int} (h : setF c s = 0) : ∀ k ∈ s, inB k 0 ((c.length : Int) - 1) = true := by
  unfold setF at h
  split at h
  · rename_i h0; exact absurd h h0
  · split at h
    · rename_i h1
      rw [setOk_eq, Bool.and_eq_true] at h1
      exact List.all_eq_true.1 h1.2
    · simp at h
end Go.Proofs.YtfmcncflooechaaGreatDoor

/- Helpers of the walks. Plain theorems. -/
set_option linter.unusedVariables false
set_option linter.unusedSimpArgs false
namespace Go.Proofs.YtfmcncflooechaaGreatDoor
open Go Go.Fw
set_option maxRecDepth 100000
def fill {α : Type} (f : α → A) (z : A) (cs : List α) (i : Nat) : List A := (cs.take i).map f ++ List.replicate (cs.length - i) z
theorem takeAll {Ω : Opq} (hΩ : Ω = std) (xs : List A) : Ω.take (Ω.len xs) xs = xs := by subst hΩ; exact List.take_length
theorem roFAll {n : Nat} {xs : List A} (h : ∀ x ∈ xs, roFree x = true) : roFree (.sl true n xs) = true := by rw [roFree_sl, Bool.true_and, List.all_eq_true]; exact h
theorem enc_own (o : Pck) : ∃ ps ds bs, o.enc true = .agg [str o.n, i64 o.v.a, i64 o.v.b, i64 o.v.c, i64 o.s, .sl true 1 ps, .sl true 1 ds, .sl true 7 bs] ∧ ps = o.p.map str ∧ ds = o.d.map (encTs true) ∧ bs = o.b.map Trm.enc := ⟨_, _, _, rfl, rfl, rfl, rfl⟩
theorem fitsE {k : Nat} {a b : List A} (h : a = b) : fitA.fitL k a b := h ▸ fits a
/-- ys is xs but for what stands up to i. -/
structure Like (xs : List A) (i : Nat) (ys : List A) : Prop where
  len : ys.length = xs.length
  at' : ∀ q, i < q → ys[q]? = xs[q]?
theorem Like.set {Ω : Opq} (hΩ : Ω = std) {xs ys : List A} {i : Nat} {z : A} (h : Like xs i ys) : Like xs i (Ω.set ys (Ω.plus 0 (Ω.nat (Ω.int i))) z) := by
  subst hΩ
  show Like xs i (ys.set (0 + i) z)
  rw [Nat.zero_add]
  exact ⟨by simpa using h.len, fun q hq => by rw [List.getElem?_set_ne (by omega)]; exact h.at' q hq⟩
theorem rdJ {Ω : Opq} (hΩ : Ω = std) {i : Nat} {xs : List A} {z : A} (h : xs[i]? = some z) : xs[(Ω.int i).toNat]? = some z := by subst hΩ; exact h
theorem ro_vw {S : State} {k r len n : Nat} {ys zs : List A} (hr : Fw.rowAt S.rows r = some ⟨n, ys, false⟩) (hl : len = ys.length) (hf : ys.map frz = zs) : roO S (k + 1) (.vw r 0 len) = some (.sl false n zs) := by
  simp only [roO, hr]
  rw [hl, List.drop_zero, List.take_length, hf]
  rfl
theorem mapO1 {f : A → Option A} {x x' : A} (h : f x = some x') : mapO f [x] = some [x'] := by simp [mapO, h]
theorem mapO2 {f : A → Option A} {x x' y y' : A} (h : f x = some x') (h2 : f y = some y') : mapO f [x, y] = some [x', y'] := by simp [mapO, h, h2]
theorem mapO3 {f : A → Option A} {x x' y y' z z' : A} (h : f x = some x') (h2 : f y = some y') (h3 : f z = some z') : mapO f [x, y, z] = some [x', y', z'] := by simp [mapO, h, h2, h3]
theorem frz_Pck (o : Pck) : frz (o.enc true) = o.enc false := by
  show frz (.agg _) = A.agg _
  rw [frz_agg]
  have h1 : (o.p.map str).map frz = o.p.map str := by rw [List.map_map]; exact List.map_congr_left fun c _ => rfl
  have h2 : (o.d.map (encTs true)).map frz = o.d.map (encTs false) := by
    rw [List.map_map]
    refine List.map_congr_left fun c _ => ?_
    show frz (A.sl true 7 _) = A.sl false 7 _
    rw [frz_sl, List.map_map]; rfl
  have h3 : (o.b.map Trm.enc).map frz = o.b.map Trm.enc := by rw [List.map_map]; exact List.map_congr_left fun c _ => rfl
  simp only [Pck.cells, List.map_cons, List.map_nil, frz_sl, h1, h2, h3]
  rfl
theorem frz_I (l : List Int) : (l.map i64).map frz = l.map i64 := by rw [List.map_map]; exact List.map_congr_left fun c _ => rfl
theorem roF_I (l : List Int) : roFree (.sl true 1 (l.map i64)) = true := roFAll fun x hx => by obtain ⟨c, _, rfl⟩ := List.mem_map.1 hx; rfl
end Go.Proofs.YtfmcncflooechaaGreatDoor

/- Branches told as facts on numbers. Plain theorems. -/
set_option linter.unusedVariables false
namespace Go.Proofs.YtfmcncflooechaaGreatDoor
open Go Go.Fw
theorem iteA {Ω : Opq} (hΩ : Ω = std) {x y c : Bool} (h : Ω.ite true x y = c) : x = c := by subst hΩ; exact h
theorem iteB {Ω : Opq} (hΩ : Ω = std) {x y c : Bool} (h : Ω.ite false x y = c) : y = c := by subst hΩ; exact h
theorem notA {Ω : Opq} (hΩ : Ω = std) {x : Bool} (h : Ω.not x = true) : x = false := notT' hΩ h
theorem notB {Ω : Opq} (hΩ : Ω = std) {x : Bool} (h : Ω.not x = false) : x = true := notF' hΩ h
theorem ltZt {Ω : Opq} (hΩ : Ω = std) {x y : Int} (h : Ω.cmp .lss x y = true) : x < y := by subst hΩ; exact lt_t h
theorem ltZf {Ω : Opq} (hΩ : Ω = std) {x y : Int} (h : Ω.cmp .lss x y = false) : y ≤ x := by subst hΩ; exact lt_f h
theorem leZt {Ω : Opq} (hΩ : Ω = std) {x y : Int} (h : Ω.cmp .leq x y = true) : x ≤ y := by subst hΩ; exact le_t h
theorem leZf {Ω : Opq} (hΩ : Ω = std) {x y : Int} (h : Ω.cmp .leq x y = false) : y < x := by subst hΩ; exact le_f h
theorem gtZt {Ω : Opq} (hΩ : Ω = std) {x y : Int} (h : Ω.cmp .gtr x y = true) : y < x := by subst hΩ; exact gt_t h
theorem gtZf {Ω : Opq} (hΩ : Ω = std) {x y : Int} (h : Ω.cmp .gtr x y = false) : x ≤ y := by subst hΩ; exact gt_f h
theorem geZt {Ω : Opq} (hΩ : Ω = std) {x y : Int} (h : Ω.cmp .geq x y = true) : y ≤ x := by subst hΩ; exact ge_t h
theorem geZf {Ω : Opq} (hΩ : Ω = std) {x y : Int} (h : Ω.cmp .geq x y = false) : x < y := by subst hΩ; exact ge_f h
theorem eqZt {Ω : Opq} (hΩ : Ω = std) {x y : Int} (h : Ω.cmp .eql x y = true) : x = y := by subst hΩ; exact eq_t h
theorem eqZf {Ω : Opq} (hΩ : Ω = std) {x y : Int} (h : Ω.cmp .eql x y = false) : x ≠ y := by subst hΩ; exact eq_f h
theorem neZt {Ω : Opq} (hΩ : Ω = std) {x y : Int} (h : Ω.cmp .neq x y = true) : x ≠ y := by subst hΩ; exact ne_t h
theorem neZf {Ω : Opq} (hΩ : Ω = std) {x y : Int} (h : Ω.cmp .neq x y = false) : x = y := by subst hΩ; exact ne_f h
end Go.Proofs.YtfmcncflooechaaGreatDoor

/- Regions that draw their order, of which some operations only read what nobody in it writes, and the others stand in one order. Plain theorems, no condition. -/
set_option linter.unusedVariables false
set_option linter.unusedSimpArgs false
namespace Go.Fw
section
variable {P : Program} {T : Nat → Option TI} {S : State} {o : Oper}
def Agree (G : Nat → Prop) (w w' : World) : Prop := ∀ b, G b → w'.heap[b]? = w.heap[b]?
/-- The operation yields a value told by x, the same one as long as what may be read stands. -/
def VOG (P : Program) (o : Oper) (S : State) (x : A) : Prop :=
  ∀ (E : Env P) (G : Nat → Prop) (gs : Gh) (a : Act) (w : World), Inv E G gs S a.tmps w →
    ∃ v, (∀ w', Agree G w w' → (execOp a.eval o).run P w' = .ok (.value v) w') ∧ TRel w G S.rows gs x v []
theorem VOG_move {x : Operand} (ho : o.op = .move x ∨ o.op = .assign x) (hx : okO x = true) : VOG P o S (ev S x) :=
  fun E G gs a w hi => ⟨a.eval x, fun w' hw' => by rcases ho with h | h <;> simp [execOp, h], ev_rel hi x hx⟩
theorem VOG_load_rp {t : TypeId} {x : Operand} {xs : List A} {z : A} (ho : o.op = .load t x) (hx : okO x = true) (he : ev S x = .rp xs)
    (ha : aggT P t = some false) (hz : xs[0]? = some z) : VOG P o S z := by
  refine fun E G gs a w hi => ?_
  have h1 := ev_rel hi x hx
  rw [he] at h1
  obtain ⟨b, k, cur, e, fr, hv, hh, hg, hl⟩ := rp_inv h1
  obtain ⟨v, hv1, hv2⟩ := hl.get 0 z hz
  have hcur : cur[k]? = some v := by
    have h0 : 0 < xs.length := by
      rcases Nat.eq_zero_or_pos xs.length with h | h
      · rw [List.eq_nil_of_length_eq_zero h] at hz; simp at hz
      · exact h
    rw [List.getElem?_take_of_lt h0, List.getElem?_drop] at hv1
    simpa using hv1
  exact ⟨v, fun w' hw' => by simp [execOp, ho, Instr.loadAt, hv, Instr.sureAddr, run_loadVar_cell ha ((hw' b hg).trans hh) hcur], .of hv2⟩
theorem VOG_load_rpAgg {t : TypeId} {x : Operand} {xs : List A} {s : Nat} (ho : o.op = .load t x) (hx : okO x = true) (he : ev S x = .rp xs)
    (ha : aggT P t = some true) (hs : szT P t = some s) (hq : s ≤ xs.length) : VOG P o S (.agg (xs.take s)) := by
  refine fun E G gs a w hi => ?_
  have h1 := ev_rel hi x hx
  rw [he] at h1
  obtain ⟨b, k, cur, e, fr, hv, hh, hg, hl⟩ := rp_inv h1
  have h2 := hl.take0 s
  have h3 := h2.length
  rw [List.take_take, Nat.min_eq_left hq] at h2 h3
  exact ⟨.agg ((cur.toList.drop k).take s).toArray, by
    intro w' hw'
    simp [execOp, ho, Instr.loadAt, hv, Instr.sureAddr, run_loadVar_agg ha hs ((hw' b hg).trans hh) rfl (by rw [h3]; simp; omega)], .of (.agg h2)⟩
theorem VOG_slice_sl {t e : TypeId} {x : Operand} {lo hi : Option Operand} {n : Nat} {xs : List A} {l h : Nat} (ho : o.op = .slice t x lo hi none) (hx : okO x = true) (hlo : okOpt lo = true) (hhi : okOpt hi = true)
    (he : ev S x = .sl false n xs) (ht : elemT P t = some e) (hs : szT P e = some n) (h1 : bnd (lo.map (ev S)) 0 = some (l : Int)) (h2 : bnd (hi.map (ev S)) xs.length = some (h : Int)) (hlh : l ≤ h) (hhl : h ≤ xs.length)
    : VOG P o S (.sl false n ((xs.take h).drop l)) := by
  refine fun E G gs a w hinv => ?_
  have e1 := ev_rel hinv x hx
  rw [he] at e1
  obtain ⟨a1, a2⟩ := opt_rel hinv lo hlo
  obtain ⟨b1, b2⟩ := opt_rel hinv hi hhi
  have hu := elemT_inv ht
  rcases slf_inv e1 with ⟨⟨oa, hv⟩, rfl⟩ | ⟨b, k, cap, cur, et, fr, hv, hh, hg, hw, hrel, hcap, hm⟩
  · simp at hhl
    subst hhl
    have : l = 0 := by omega
    subst this
    have hb := slice_bounds (P := P) (isS := true) (lo.map a.eval) (hi.map a.eval) _ _ h1 h2 a1 a2 b1 b2 (by omega) (by simp) (cap := 0) (by simp)
    simp only [List.length_nil] at hb
    refine ⟨.slice oa 0 0, ?_, .of (by cases oa with | none => simpa using Rel.nils | some ad => simpa using Rel.roz)⟩
    intro w' hw'
    cases oa <;>
    simp [execOp, ho, hv, Instr.sliceAt, run_underlying hu, Instr.slice, hb, run_sizeOf hs]
  · have hb := slice_bounds (P := P) (isS := true) (lo.map a.eval) (hi.map a.eval) _ _ h1 h2 a1 a2 b1 b2 hlh hhl hcap
    have hlen : h - l = ((xs.take h).drop l).length := by simp; omega
    refine ⟨.slice (some ⟨b, if cap = l then k else k + l * n, none⟩) (h - l) (cap - l), ?_, .of (.ro hh hg (fun x hx => hw x (List.mem_of_mem_take (List.mem_of_mem_drop hx))) hlen rfl ?_ (by omega) (by omega))⟩
    · intro w' hw'
      simp [execOp, ho, hv, Instr.sliceAt, run_underlying hu, Instr.slice, hb, run_sizeOf hs]
      split <;> simp [add_none]
    · have h3 := (hrel.take0 (h * n)).drop0 (l * n)
      rw [flat_take h hw, flat_drop l (fun x hx => hw x (List.mem_of_mem_take hx))] at h3
      have hle : h * n ≤ xs.length * n := Nat.mul_le_mul_right _ hhl
      have e4 : List.drop (l * n) (List.take (h * n) (List.take (xs.length * n) (cur.toList.drop k))) = (cur.toList.drop (k + l * n)).take ((h - l) * n) := by
        rw [List.take_take, Nat.min_eq_left hle, List.drop_take, List.drop_drop, ← Nat.sub_mul]
      rw [e4] at h3
      split
      · rename_i hc
        have h0 : h - l = 0 := by omega
        rw [h0] at h3 ⊢
        simpa using h3
      · exact h3
theorem VOG_binOp {op : BinOp} {t t' : TypeId} {x y : Operand} {u v : Value} (ho : o.op = .binOp op t x y t') (hx : okO x = true) (hy : okO y = true)
    (h1 : ev S x = .sc u) (h2 : ev S y = .sc v) (h : (binS P op t u v).1) : VOG P o S (.sc (binS P op t u v).2) := by
  refine fun E G gs a w hi => ?_
  have e1 := ev_rel hi x hx
  have e2 := ev_rel hi y hy
  rw [h1] at e1
  rw [h2] at e2
  have v1 := (sc_inv e1).1
  have v2 := (sc_inv e2).1
  refine ⟨_, fun w' hw' => ?_, .of (.sc (binS_run h x y w).2)⟩
  have hr := (binS_run h x y w').1
  simp only [execOp, ho, v1, v2, Sem.run_bind] at hr ⊢
  rw [hr]
  rfl
theorem VOG_makeFunc {fn : FuncId} {first caps : Array Operand} (ho : o.op = .makeFunc (.func fn) first caps) (hf : first.toList = []) (hg : fn < 1000000) : VOG P o S (.clo fn (caps.toList.map (ev S))) := by
  refine fun E G gs a w hi => ⟨mkFn fn (caps.toList.map a.eval), fun w' hw' => ?_, .clo (evs_rel hi caps.toList)⟩
  have : first = #[] := by apply Array.toList_inj.1; simpa using hf
  subst this
  have e : (caps.toList.map a.eval).toArray = caps.map a.eval := by apply Array.toList_inj.1; simp
  unfold mkFn
  rw [if_pos hg, e]
  simp [execOp, ho, Instr.makeFunc]
theorem vBin_sc (hT : TabOK P T) {k : A → Prop} {op : BinOp} {t : TypeId} {x y : A} (h : vBin std T op t x y k) : ∃ u v, x = .sc u ∧ y = .sc v ∧ (binS P op t u v).1 ∧ k (.sc (binS P op t u v).2) := by
  unfold vBin at h
  split at h <;> try exact h.elim
  · rename_i ka a kb b
    have go : (binS P op t (.int ka a) (.int kb b)).1 → k (.sc (binS P op t (.int ka a) (.int kb b)).2) → ∃ u v, A.sc (.int ka a) = .sc u ∧ A.sc (.int kb b) = .sc v ∧ (binS P op t u v).1 ∧ k (.sc (binS P op t u v).2) := fun hc hk => ⟨_, _, rfl, rfl, hc, hk⟩
    unfold vBinI at h
    split at h
    · exact go h.1.h h.2
    · exact go h.1.h h.2
    · split at h <;> try exact h.elim
      rename_i hk
      subst hk
      split at h
      · exact go rfl h
      · exact go rfl h
      · exact go rfl h
      · exact go rfl h
      · exact go rfl h
      · exact go rfl h
      · exact go rfl h
      · exact go ⟨rfl, h.1.h⟩ h.2
      · exact go ⟨rfl, h.1.h⟩ h.2
      · cases op <;> first | exact go rfl h | simp_all
  · rename_i a b
    have go : (binS P op t (.string a) (.string b)).1 → k (.sc (binS P op t (.string a) (.string b)).2) → ∃ u v, A.sc (.string a) = .sc u ∧ A.sc (.string b) = .sc v ∧ (binS P op t u v).1 ∧ k (.sc (binS P op t u v).2) := fun hc hk => ⟨_, _, rfl, rfl, hc, hk⟩
    unfold vBinS at h
    split at h <;> try exact h.elim
    · exact go h.1.h h.2
    all_goals exact go trivial h
  · rename_i a b
    split at h <;> try exact h.elim
    · rename_i i hi
      split at h <;> try exact h.elim
      rename_i hb
      exact ⟨_, _, rfl, rfl, by rw [← (tiOf_ok (hT _ _ hi)).bool] at hb; exact hb, h⟩
    · rename_i i hi
      split at h <;> try exact h.elim
      rename_i hb
      exact ⟨_, _, rfl, rfl, by rw [← (tiOf_ok (hT _ _ hi)).bool] at hb; exact hb, h⟩
/-- What an operation reads that nobody writes. -/
def vGOp (Ω : Opq) (T : Nat → Option TI) (o : Oper) (S : State) (k : A → Prop) : Prop :=
  match o.op with
  | .move x => k (ev S x)
  | .assign x => k (ev S x)
  | .binOp op t x y _ => vBin Ω T op t (ev S x) (ev S y) k
  | .load t x => (match T t, ev S x with
    | some i, .rp xs => if i.ag then (if i.sz ≤ xs.length then k (.agg (xs.take i.sz)) else False) else (match xs[0]? with
      | some z => k z
      | none => False)
    | _, _ => False)
  | .slice t x lo hi none => (match ev S x, szEl T t with
    | .sl false n xs, some (_, ei) => if ei.sz = n then vLo Ω (lo.map (ev S)) 0 fun c1 l => vLo Ω (hi.map (ev S)) (Ω.len xs) fun c2 h => Ob (fun _ => c1 () ∧ c2 () ∧ l ≤ h ∧ h ≤ xs.length) ∧ k (.sl false n (Ω.seg l h xs)) else False
    | _, _ => False)
  | .makeFunc (.func g) first caps => (match first.toList with
    | [] => if g < 1000000 then k (.clo g (caps.toList.map (ev S))) else False
    | _ => False)
  | _ => False
theorem vGOp_ok (hT : TabOK P T) {k : A → Prop} (h : vGOp std T o S k) : ∃ z, VOG P o S z ∧ k z := by
  have ok : ∀ x : Option Operand, okOpt x = true := fun x => by cases x <;> rfl
  unfold vGOp at h
  split at h
  · rename_i x ho; exact ⟨_, VOG_move (.inl ho) rfl, h⟩
  · rename_i x ho; exact ⟨_, VOG_move (.inr ho) rfl, h⟩
  · rename_i ho
    obtain ⟨u, v, h1, h2, h3, h4⟩ := vBin_sc hT h
    exact ⟨_, VOG_binOp ho rfl rfl h1 h2 h3, h4⟩
  · rename_i t x ho
    split at h <;> try exact h.elim
    rename_i i xs hi hx
    have hti := tiOf_ok (hT _ _ hi)
    split at h
    · rename_i hag
      split at h <;> try exact h.elim
      rename_i hle
      exact ⟨_, VOG_load_rpAgg ho rfl hx (by rw [hti.ag, hag]) hti.sz hle, h⟩
    · rename_i hag
      split at h <;> try exact h.elim
      rename_i z hz
      exact ⟨_, VOG_load_rp ho rfl hx (by rw [hti.ag]; simpa using hag) hz, h⟩
  · rename_i t x lo hi ho
    split at h <;> try exact h.elim
    rename_i n xs e ei hx hs
    obtain ⟨he, hei⟩ := szEl_ok hT hs
    split at h <;> try exact h.elim
    rename_i hn
    obtain ⟨c1, l, h, g1⟩ := vLo_ok h
    obtain ⟨c2, u, h, g2⟩ := vLo_ok h
    obtain ⟨h0, h⟩ := h
    obtain ⟨h1, h2, h3, h4⟩ := h0.h
    exact ⟨_, VOG_slice_sl ho rfl (ok _) (ok _) hx he (by rw [hei.sz, hn]) (g1 h1) (g2 h2) h3 h4, h⟩
  · rename_i g first caps ho
    split at h <;> try exact h.elim
    rename_i hf
    split at h <;> try exact h.elim
    rename_i hg
    exact ⟨_, VOG_makeFunc ho hf hg, h⟩
  · exact h.elim
def vGs (Ω : Opq) (T : Nat → Option TI) (ops : List Oper) : List Nat → State → (State → Prop) → Prop
  | [], S, K => K S
  | q :: qs, S, K => match ops[q]? with
    | some o => (match o.guard with
      | none => vGOp Ω T o S fun z => vGs Ω T ops qs (S.put o.dst z) K
      | some _ => False)
    | none => False
def vNs (Ω : Opq) (P : Program) (T : Nat → Option TI) (ops : List Oper) : Option Nat → List Nat → State → (State → Prop) → Prop
  | _, [], S, K => K S
  | mv, n :: ns, S, K => match ops[n]? with
    | some o => (match o.guard with
      | none => vOp Ω P T mv o S fun S' => vNs Ω P T ops (madeBy o) ns S' K
      | some _ => False)
    | none => False
/-- The surroundings from the region's own beginning on. -/
def envAt (E : Env P) (G : Nat → Prop) (gs : Gh) (S : State) (w : World) : Env P :=
  ⟨w, G, fun b => ∃ r row, rowAt S.rows r = some row ∧ b ∈ gs.all r, E.gv⟩
theorem Inv.at {E : Env P} {G : Nat → Prop} {gs : Gh} {tmps : Array Value} {w : World} (hi : Inv E G gs S tmps w) : Inv (envAt E G gs S w) G gs S tmps w :=
  ⟨fun _ _ _ => rfl, rfl, rfl, rfl, Nat.le_refl _, hi.sz, fun _ h => h, fun _ h => .inl h, hi.glt, hi.row, hi.nod, fun r row hr b hb => ⟨(hi.own r row hr b hb).1, .inl ⟨r, row, hr, hb⟩⟩, hi.dis, hi.tmp⟩
theorem Inv.back {E : Env P} {G G' : Nat → Prop} {gs gs' : Gh} {S' : State} {tmps tmps' : Array Value} {w w' : World} (hi : Inv E G gs S tmps w) (hi' : Inv (envAt E G gs S w) G' gs' S' tmps' w') : Inv E G' gs' S' tmps' w' := by
  have hfin : ∀ b, (∃ r row, rowAt S.rows r = some row ∧ b ∈ gs.all r) → E.Fin b ∨ E.w0.heap.size ≤ b := fun b ⟨r, row, hr, hb⟩ => (hi.own r row hr b hb).2
  refine ⟨fun b h hf => ?_, hi'.os.trans hi.os, hi'.tape.trans hi.tape, hi'.output.trans hi.output, Nat.le_trans hi.size hi'.size, hi'.sz, fun b h => hi'.gsub b (hi.gsub b h), fun b h => ?_, hi'.glt, hi'.row, hi'.nod, fun r row hr b hb => ?_, hi'.dis, hi'.tmp⟩
  · rw [hi'.keep b (Nat.lt_of_lt_of_le h hi.size) fun hb => by
      rcases hfin b hb with h1 | h1
      · exact hf h1
      · omega]
    exact hi.keep b h hf
  · rcases hi'.gnew b h with h1 | ⟨r, row, hr, hb⟩ | h1
    · exact hi.gnew b h1
    · exact .inr (hi.own r row hr b hb).2
    · exact .inr (.inr (Nat.le_trans hi.size h1))
  · refine ⟨(hi'.own r row hr b hb).1, ?_⟩
    rcases (hi'.own r row hr b hb).2 with h1 | h1
    · exact hfin b h1
    · exact .inr (Nat.le_trans hi.size h1)
theorem Inv.agree {E : Env P} {G G' : Nat → Prop} {gs gs' : Gh} {S' : State} {tmps tmps' : Array Value} {w w' : World} (hi : Inv E G gs S tmps w) (hi' : Inv (envAt E G gs S w) G' gs' S' tmps' w') : Agree G w w' := fun b hb =>
  hi'.keep b (hi.glt b hb) fun ⟨r, row, hr, h⟩ => (hi.own r row hr b h).1 hb
end
end Go.Fw

/- Regions that draw their order, in which operations read rows that others leave alone for a while. Plain theorems, no condition. -/
set_option linter.unusedVariables false
set_option linter.unusedSimpArgs false
namespace Go.Fw

/-! The order of a region: what keeps a condition on the world, and what need not. -/
section
variable {P : Program} {ops : Array Oper} {Q : Exit → Act → World → Prop} {md : Region.Mode} {kp : Nat → Bool} {Sc : World → Prop}
/-- Whatever order is drawn; those that 'kp' names keep Sc. -/
def anyK (P : Program) (md : Region.Mode) (ops : Array Oper) (Q : Exit → Act → World → Prop) (kp : Nat → Bool) (Sc : World → Prop) : Nat → Array Bool → Act → World → Prop
  | 0, l, a, w => Region.ready md ops l = [] ∧ Q .normal a w
  | f + 1, l, a, w => (Region.ready md ops l = [] → Q .normal a w) ∧
    ∀ i ∈ Region.ready md ops l, wpOp P ops Q i (fun a' w' => (kp i = true → Sc w') ∧ anyK P md ops Q kp Sc f (l.setIfInBounds i true) a' w') a w
theorem any_of_K : ∀ (f : Nat) (l : Array Bool) (a : Act) (w : World), anyK P md ops Q kp Sc f l a w → wpAny P md ops Q f l a w
  | 0, _, _, _, h => h
  | f + 1, _, _, _, h => ⟨h.1, fun i hi => wpOp_mono (fun a' w' h' => any_of_K f _ a' w' h'.2) (h.2 i hi)⟩
/-- j waits for i, maybe through others. -/
def waitsB (md : Region.Mode) (ops : Array Oper) (i : Nat) : Nat → Nat → Bool
  | 0, _ => false
  | f + 1, j => match ops[j]? with
    | some oj => oj.after.any fun e => Region.binds md e && (e.on == i || waitsB md ops i f e.on)
    | none => false
/-- What has come up has come behind all that it waits for. -/
structure Closed (md : Region.Mode) (ops : Array Oper) (l : Array Bool) : Prop where
  h : ∀ j oj, ops[j]? = some oj → l.getD j false = true → ∀ e ∈ oj.after, Region.binds md e = true → l.getD e.on false = true
def closedB (md : Region.Mode) (ops : Array Oper) (l : Array Bool) : Bool :=
  (List.range ops.size).all fun j => !l.getD j false || match ops[j]? with
    | some oj => oj.after.all fun e => !Region.binds md e || l.getD e.on false
    | none => true
theorem closedB_ok {l : Array Bool} (h : closedB md ops l = true) : Closed md ops l := ⟨fun j oj hj hl e he hb => by
  simp only [closedB, List.all_eq_true, List.mem_range] at h
  have h1 := h j (Array.getElem?_eq_some_iff.1 hj).1
  simp only [hj, hl, Bool.not_true, Bool.false_or, Array.all_eq_true_iff_forall_mem] at h1
  have h2 := h1 e he
  simpa [hb] using h2⟩
theorem Closed.waits {l : Array Bool} (hc : Closed md ops l) {i : Nat} (hi : l.getD i true = false) : ∀ (f j : Nat), (∀ oj, ops[j]? = some oj → ∀ e ∈ oj.after, Region.binds md e = true → l.getD e.on false = true) → waitsB md ops i f j = false
  | 0, j, _ => rfl
  | f + 1, j, h => by
    unfold waitsB
    split
    · rename_i oj hj
      rw [Array.any_eq_false]
      intro k hk
      simp only [Bool.and_eq_true, Bool.or_eq_true, beq_iff_eq, not_and, not_or]
      intro hb
      have h1 := h oj hj _ (Array.getElem_mem hk) hb
      refine ⟨fun e => ?_, by simp [hc.waits hi f _ fun oj' hj' => hc.h _ oj' hj' h1]⟩
      rw [e, getD_both hi] at h1
      cases h1
    · rfl
theorem Closed.set {l : Array Bool} (hc : Closed md ops l) {j : Nat} (hj : j ∈ Region.ready md ops l) : Closed md ops (l.setIfInBounds j true) := ⟨fun k ok hk hl e he hb => by
  obtain ⟨_, oj, hoj, hall⟩ := mem_ready.1 hj
  refine getD_set_true ?_
  by_cases hjk : j = k
  · subst hjk
    rw [hoj] at hk
    obtain rfl := Option.some.inj hk
    exact hall e he hb
  · rw [getD_set_ne false hjk] at hl
    exact hc.h k ok hk hl e he hb⟩
/-- All that may still come ahead of i keeps Sc. -/
def kfree (md : Region.Mode) (ops : Array Oper) (kp : Nat → Bool) (l : Array Bool) (i : Nat) : Bool :=
  closedB md ops l && (List.range ops.size).all fun j => j == i || l.getD j true || match ops[j]? with
    | some oj => waitsB md ops i ops.size j || (oj.after.any (fun e => Region.binds md e && e.on == i) || kp j) && (match ops[i]? with
      | some oi => oi.apart ops oj
      | none => false)
    | none => true
theorem kfree_spec {i : Nat} {oi : Oper} {l : Array Bool} (hi : ops[i]? = some oi) (h : kfree md ops kp l i = true) (j : Nat) (oj : Oper) (hj : ops[j]? = some oj) (hne : j ≠ i) (hun : l.getD j true = false)
    (hno : waitsB md ops i ops.size j = false) (hdir : ∀ e ∈ oj.after, Region.binds md e = true → e.on ≠ i) : oi.apart ops oj = true ∧ kp j = true := by
  simp only [kfree, Bool.and_eq_true, List.all_eq_true, List.mem_range] at h
  have h1 := h.2 j (Array.getElem?_eq_some_iff.1 hj).1
  simp only [hj, hi, Bool.or_eq_true, beq_iff_eq, hne, false_or, hun, hno, Bool.false_eq_true, Bool.and_eq_true] at h1
  refine ⟨h1.2, h1.1.resolve_left fun h2 => ?_⟩
  obtain ⟨e, he, hb⟩ := Array.any_eq_true'.1 h2
  simp only [Bool.and_eq_true, beq_iff_eq] at hb
  exact hdir e he hb.1 hb.2
theorem anyK_first {i : Nat} {oi : Oper} {v : Value} (hi : ops[i]? = some oi) (hsel : ∀ (j : Nat) (o : Oper) cs b, ops[j]? = some o → o.op ≠ .select cs b)
    (hQ : ∀ c a w, Q (.panic c) (a.put oi.dst v) w → Q (.panic c) a w) : ∀ (f : Nat) (l : Array Bool) (a : Act) (w : World), Closed md ops l →
    (∀ j oj, ops[j]? = some oj → j ≠ i → l.getD j true = false → waitsB md ops i ops.size j = false → (∀ e ∈ oj.after, Region.binds md e = true → e.on ≠ i) → oi.apart ops oj = true ∧ kp j = true) →
    i ∈ Region.ready md ops l → YieldsIf P ops Sc oi v a → Sc w → anyK P md ops Q kp Sc f (l.setIfInBounds i true) (a.put oi.dst v) w → anyK P md ops Q kp Sc (f + 1) l a w := by
  intro f
  induction f with
  | zero =>
    intro l a w _ _ hr hy hS H
    refine ⟨fun h => (by rw [h] at hr; cases hr), fun j hj => ?_⟩
    by_cases hji : j = i
    · subst hji; exact hy.wpOp hi hS ⟨fun _ => hS, H⟩
    · have h1 := ready_mono hj hji
      rw [H.1] at h1
      cases h1
  | succ f ih =>
    intro l a w hcl hfree hr hy hS H
    refine ⟨fun h => (by rw [h] at hr; cases hr), fun j hj => ?_⟩
    by_cases hji : j = i
    · subst hji; exact hy.wpOp hi hS ⟨fun _ => hS, H⟩
    · obtain ⟨hjun, oj, hoj, hall⟩ := mem_ready.1 hj
      have hin := (mem_ready.1 hr).1
      have hnot : ∀ e ∈ oj.after, Region.binds md e = true → e.on ≠ i := fun e he hb heq => by
        have h1 := hall e he hb
        rw [heq, getD_both hin] at h1
        cases h1
      have hw : waitsB md ops i ops.size j = false := hcl.waits hin _ _ fun oj' hj' e he hb => by
        rw [hoj] at hj'
        obtain rfl := Option.some.inj hj'
        exact hall e he hb
      obtain ⟨hap, hkp⟩ := hfree j oj hoj hji hjun hw hnot
      refine wpOp_mono (fun a' w' h3 => ⟨fun _ => h3.2.1 hkp, ih (l.setIfInBounds j true) a' w' (hcl.set hj) (fun k ok hk hki hun hno hd => ?_) (ready_mono hr (Ne.symm hji)) h3.1 (h3.2.1 hkp) ?_⟩)
        (wpOp_putIf hoj hap (fun cs b => hsel i oi cs b hi) (fun cs b => hsel j oj cs b hoj) hQ hy (H.2 j (ready_mono hj hji)))
      · refine hfree k ok hk hki ?_ hno hd
        by_cases hjk : j = k
        · subst hjk; exact hjun
        · rw [getD_set_ne true hjk] at hun; exact hun
      · rw [Array.setIfInBounds_comm _ _ hji]
        exact h3.2.2
theorem anyK_take {i : Nat} {oi : Oper} {v : Value} {f : Nat} {l : Array Bool} {a : Act} {w : World} (hi : ops[i]? = some oi) (hs : Region.noSelect ops = true) (hk : kfree md ops kp l i = true)
    (hr : (Region.ready md ops l).contains i = true) (hQ : ∀ c a w, Q (.panic c) (a.put oi.dst v) w → Q (.panic c) a w) (hy : YieldsIf P ops Sc oi v a) (hS : Sc w)
    (h : anyK P md ops Q kp Sc f (l.setIfInBounds i true) (a.put oi.dst v) w) : anyK P md ops Q kp Sc (f + 1) l a w :=
  anyK_first hi (Region.noSelect_spec hs) hQ f l a w (closedB_ok (by simp only [kfree, Bool.and_eq_true] at hk; exact hk.1)) (kfree_spec hi hk) (by simpa using hr) hy hS h
end

/-! Rows that are lent: for a while nothing is told of them but that they stand. -/
mutual
/-- It leads into rows rs alone. -/
def onlyR (rs : List Nat) : A → Bool
  | .vw r _ _ => rs.contains r
  | .pt r _ _ => rs.contains r
  | .agg xs => onlyRL rs xs
  | .tup xs => onlyRL rs xs
  | .clo _ xs => onlyRL rs xs
  | .un => true
  | .sc _ => true
  | .nil => true
  | .sl _ _ _ => true
  | .rp _ => true
  | .bx _ => true
def onlyRL (rs : List Nat) : List A → Bool
  | [] => true
  | x :: xs => onlyR rs x && onlyRL rs xs
end
theorem onlyRL_eq (rs : List Nat) : ∀ xs : List A, onlyRL rs xs = xs.all (onlyR rs)
  | [] => rfl
  | x :: xs => by rw [onlyRL, onlyRL_eq rs xs, List.all_cons]
theorem TRel.on {w w' : World} {G G' : Nat → Prop} {rows rows' : List (Option Row)} {gs gs' : Gh} {rs : List Nat} (hG : ∀ b, G b → G' b ∧ w'.heap[b]? = w.heap[b]?) (hR : ∀ r ∈ rs, RowLe w w' rows rows' gs gs' r)
    {x : A} {v : Value} {F : List Nat} (h : TRel w G rows gs x v F) (ho : onlyR rs x = true) (hF : ∀ b ∈ F, w'.heap[b]? = w.heap[b]?) : TRel w' G' rows' gs' x v F := by
  refine TRel.rec (motive_1 := fun x v F _ => onlyR rs x = true → (∀ b ∈ F, w'.heap[b]? = w.heap[b]?) → TRel w' G' rows' gs' x v F)
    (motive_2 := fun xs vs F _ => xs.all (onlyR rs) = true → (∀ b ∈ F, w'.heap[b]? = w.heap[b]?) → TRelL w' G' rows' gs' xs vs F) ?_ ?_ ?_ ?_ ?_ ?_ ?_ ?_ ?_ ?_ h ho hF
  · intros; exact .un
  · intro x v F h _ hF; exact .of (h.move_ hG hF)
  · intro r off len k cap b row cur e hr hob hl hh hs hm hc hk ho _
    obtain ⟨row', hr', hg, hn, hx, hb⟩ := (hR r (by simpa [onlyR] using ho)).le row hr
    obtain ⟨cur', e', hh', hs'⟩ := hb b cur e hob hh
    exact .vw hr' (by rw [hg]; exact hob) (by omega) hh' (by rw [hs', hs, hn]) hm (by omega) (by rw [hn]; exact hk)
  · intro r row hr hob hxs ho _
    obtain ⟨row', hr', hg, hn, hx, hb⟩ := (hR r (by simpa [onlyR] using ho)).le row hr
    exact .vwn hr' (by rw [hg]; exact hob) (by rw [hxs] at hx; exact List.eq_nil_of_length_eq_zero hx)
  · intro r j o k b row hr hob hk ho _
    obtain ⟨row', hr', hg, hn, hx, hb⟩ := (hR r (by simpa [onlyR] using ho)).le row hr
    exact .pt hr' (by rw [hg]; exact hob) (by rw [hn]; exact hk)
  · intro xs cs F hl ih ho hF; exact .agg (ih (by rw [← onlyRL_eq]; simpa [onlyR] using ho) hF)
  · intro xs cs F hl ih ho hF; exact .tup (ih (by rw [← onlyRL_eq]; simpa [onlyR] using ho) hF)
  · intro g caps cs F hl ih ho hF; exact .clo (ih (by rw [← onlyRL_eq]; simpa [onlyR] using ho) hF)
  · intro _ _; exact .nil
  · intro x v F xs vs Fs h hl ih ih' ho hF
    rw [List.all_cons, Bool.and_eq_true] at ho
    exact .cons (ih ho.1 fun b hb => hF b (by simp [hb])) (ih' ho.2 fun b hb => hF b (by simp [hb]))
theorem TRelL.on {w w' : World} {G G' : Nat → Prop} {rows rows' : List (Option Row)} {gs gs' : Gh} {rs : List Nat} (hG : ∀ b, G b → G' b ∧ w'.heap[b]? = w.heap[b]?) (hR : ∀ r ∈ rs, RowLe w w' rows rows' gs gs' r) :
    ∀ {xs : List A} {vs : List Value} {F : List Nat}, TRelL w G rows gs xs vs F → xs.all (onlyR rs) = true → (∀ b ∈ F, w'.heap[b]? = w.heap[b]?) → TRelL w' G' rows' gs' xs vs F
  | _, _, _, .nil, _, _ => .nil
  | _, _, _, .cons h hl, ho, hF => by
    rw [List.all_cons, Bool.and_eq_true] at ho
    exact .cons (h.on hG hR ho.1 fun b hb => hF b (by simp [hb])) (hl.on hG hR ho.2 fun b hb => hF b (by simp [hb]))
def rowOnly (rs : List Nat) (row : Row) : Bool := !row.lk || (flat row.xs).all (onlyR rs)
theorem RowRel.on {w w' : World} {G G' : Nat → Prop} {rows rows' : List (Option Row)} {gs gs' : Gh} {rs : List Nat} (hG : ∀ b, G b → G' b ∧ w'.heap[b]? = w.heap[b]?) (hR : ∀ r ∈ rs, RowLe w w' rows rows' gs gs' r)
    {row : Row} {ob : Option Nat} {F : List Nat} (h : RowRel w G rows gs row ob F) (ho : rowOnly rs row = true) (hF : ∀ b ∈ ob.toList ++ F, w'.heap[b]? = w.heap[b]?) : RowRel w' G' rows' gs' row ob F := by
  cases ob with
  | none => exact h
  | some b =>
    obtain ⟨cur, e, cap, h1, h2, h3, h4, h5, h6, h7⟩ := h.ex
    have hF' : ∀ c ∈ F, w'.heap[c]? = w.heap[c]? := fun c hc => hF c (by simp [hc])
    refine ⟨cur, e, cap, by rw [hF b (by simp)]; exact h1, h2, h3, h4, h5, h6, ?_⟩
    unfold CellsRel at h7 ⊢
    split
    · rename_i hl
      rw [if_pos hl] at h7
      exact h7.on hG hR (by simpa [rowOnly, hl] using ho) hF'
    · rename_i hl
      rw [if_neg hl] at h7
      exact h7.move_ hG hF'

def State.turns : List Nat → State → State
  | [], S => S
  | r :: rs, S => State.turns rs (S.turn r none)
def lentT (vs : Nat → Value) : List Nat → List (Nat × A) → List (Nat × A)
  | [], t => t
  | i :: hs, t => (i, .sc (vs i)) :: lentT vs hs t
/-- Rows rs are lent; the temporaries hs are kept as they are. -/
def State.lend (S : State) (rs hs : List Nat) (vs : Nat → Value) : State := ⟨lentT vs hs (S.turns rs).t, S.N, (S.turns rs).rows⟩
def backT (S : State) : List Nat → List (Nat × A) → List (Nat × A)
  | [], t => t
  | i :: hs, t => (i, lk S.t i) :: backT S hs t
def backR (S : State) : List Nat → List (Option Row) → List (Option Row)
  | [], rows => rows
  | r :: rs, rows => backR S rs (rows.set r (rowAt S.rows r))
/-- They are given back. -/
def State.unlend (S2 S : State) (rs hs : List Nat) : State := ⟨backT S hs S2.t, S2.N, backR S rs S2.rows⟩
theorem lk_lentT (vs : Nat → Value) : ∀ (hs : List Nat) (t : List (Nat × A)) (i : Nat), lk (lentT vs hs t) i = if i ∈ hs then .sc (vs i) else lk t i
  | [], t, i => by simp [lentT]
  | j :: hs, t, i => by
    simp only [lentT, lk, lk_lentT vs hs t i, List.mem_cons]
    by_cases h : j = i
    · subst h; simp
    · rw [if_neg h]
      by_cases h2 : i ∈ hs
      · simp [h2]
      · simp only [h2, or_false, if_false]
        rw [if_neg fun e => h e.symm]
theorem lk_backT (S : State) : ∀ (hs : List Nat) (t : List (Nat × A)) (i : Nat), lk (backT S hs t) i = if i ∈ hs then lk S.t i else lk t i
  | [], t, i => by simp [backT]
  | j :: hs, t, i => by
    simp only [backT, lk, lk_backT S hs t i, List.mem_cons]
    by_cases h : j = i
    · subst h; simp
    · rw [if_neg h]
      by_cases h2 : i ∈ hs
      · simp [h2]
      · simp only [h2, or_false, if_false]
        rw [if_neg fun e => h e.symm]
theorem rowAt_backR (S : State) : ∀ (rs : List Nat) (rows : List (Option Row)) (i : Nat), (∀ r ∈ rs, r < rows.length) → rowAt (backR S rs rows) i = if i ∈ rs then rowAt S.rows i else rowAt rows i
  | [], rows, i, _ => by simp [backR]
  | r :: rs, rows, i, h => by
    rw [backR, rowAt_backR S rs _ i (fun q hq => by rw [List.length_set]; exact h q (by simp [hq]))]
    simp only [List.mem_cons]
    by_cases h2 : i ∈ rs
    · simp [h2]
    · rw [if_neg h2, rowAt_set _ _ _ _ (h r (by simp))]
      by_cases h3 : i = r
      · subst h3; simp
      · simp [h2, h3]
section
variable {P : Program} {T : Nat → Option TI} {E : Env P} {G : Nat → Prop} {gs : Gh} {S : State} {a : Act} {w : World} {tmps : Array Value}
theorem Inv.turns : ∀ (rs : List Nat) {S : State} {gs : Gh}, Inv E G gs S tmps w → rs.Nodup → (∀ r ∈ rs, ∃ row, rowAt S.rows r = some row) →
    ∃ gs', Inv E G gs' (S.turns rs) tmps w ∧ (∀ r, r ∉ rs → gs' r = gs r) ∧ ∀ r ∈ rs, rowAt (S.turns rs).rows r = none
  | [], S, gs, hi, _, _ => ⟨gs, hi, fun _ _ => rfl, by simp⟩
  | q :: rs, S, gs, hi, hnd, hr => by
    obtain ⟨row, hq⟩ := hr q (by simp)
    rw [List.nodup_cons] at hnd
    have h1 := hi.turn (x := none) (ob := none) (F := []) hq rfl rfl rfl (Nat.le_refl _) (fun _ _ _ => rfl) (by simp) (by simp) (by simp) (by simp)
    obtain ⟨gs', h2, h3, h4⟩ := Inv.turns rs h1 hnd.2 (fun r hrr => by
      obtain ⟨row', h⟩ := hr r (by simp [hrr])
      refine ⟨killRow q row', ?_⟩
      rw [rowAt_turn hq, if_neg (fun e => hnd.1 (by rw [← e]; exact hrr)), h]; rfl)
    have keepNone : ∀ (rs : List Nat) (S : State), rowAt S.rows q = none → rowAt (S.turns rs).rows q = none := by
      intro rs
      induction rs with
      | nil => intro S h; exact h
      | cons r rs ih =>
        intro S h
        refine ih _ ?_
        show rowAt ((killRows r S.rows).set r none) q = none
        by_cases hlt : r < (killRows r S.rows).length
        · rw [rowAt_set _ _ _ _ hlt]
          split
          · rfl
          · rw [rowAt_killRows, h]; rfl
        · rw [List.set_eq_of_length_le (by omega), rowAt_killRows, h]; rfl
    refine ⟨gs', h2, fun r hrn => ?_, fun r hrr => ?_⟩
    · rw [h3 r (fun h => hrn (by simp [h]))]
      simp only [Gh.add]
      rw [if_neg fun e => hrn (by simp [e])]
    · rcases List.mem_cons.1 hrr with rfl | h
      · refine keepNone rs _ ?_
        rw [rowAt_turn hq, if_pos rfl]
      · exact h4 r h
/-- One cell. -/
def oneA' : A → Bool
  | .agg _ => false
  | .tup _ => false
  | .clo _ _ => false
  | .un => false
  | _ => true
theorem cell_of {rows : List (Option Row)} {x : A} {v : Value} (h : TRel w G rows gs x v []) (hx : oneA' x = true) : cellV v = true := by
  cases h with
  | un => cases hx
  | of h => cases h <;> first | rfl | assumption | cases hx
  | vw => rfl
  | vwn => rfl
  | pt => rfl
  | agg => cases hx
  | tup => cases hx
  | clo => cases hx
def AgreeR (G : Nat → Prop) (gs : Gh) (rs : List Nat) (w w' : World) : Prop := ∀ b, (G b ∨ ∃ r ∈ rs, b ∈ gs.all r) → w'.heap[b]? = w.heap[b]?
def envL (E : Env P) (G : Nat → Prop) (gs gs' : Gh) (S : State) (rs : List Nat) (tmps : Array Value) (w : World) : Env P := ⟨w, G, fun b => ∃ r row, rowAt (S.turns rs).rows r = some row ∧ b ∈ gs'.all r, E.gv⟩
theorem Inv.lend (hi : Inv E G gs S tmps w) {rs hs : List Nat} (hnd : rs.Nodup) (hr : ∀ r ∈ rs, ∃ row, rowAt S.rows r = some row) (hone : ∀ i ∈ hs, oneA' (lk S.t i) = true) :
    ∃ gs', Inv (envL E G gs gs' S rs tmps w) G gs' (S.lend rs hs (vat E tmps)) tmps w ∧ (∀ r, r ∉ rs → gs' r = gs r) ∧ ∀ r ∈ rs, rowAt (S.turns rs).rows r = none := by
  obtain ⟨gs', h1, h2, h3⟩ := Inv.turns rs hi hnd hr
  refine ⟨gs', ⟨fun _ _ _ => rfl, rfl, rfl, rfl, Nat.le_refl _, hi.sz, fun _ h => h, fun _ h => .inl h, hi.glt, h1.row, h1.nod, fun r row hr b hb => ⟨(h1.own r row hr b hb).1, .inl ⟨r, row, hr, hb⟩⟩, h1.dis, fun i => ?_⟩, h2, h3⟩
  show TRel w G (S.turns rs).rows gs' (lk (lentT (vat E tmps) hs (S.turns rs).t) i) (vat E tmps i) []
  rw [lk_lentT]
  split
  · rename_i h
    exact .of (.sc (cell_of (hi.tmp i) (hone i h)))
  · exact h1.tmp i
theorem turns_none {rs : List Nat} : ∀ {S : State} {r : Nat}, rowAt S.rows r = none → rowAt (S.turns rs).rows r = none := by
  induction rs with
  | nil => exact id
  | cons q rs ih =>
    intro S r h
    refine ih ?_
    show rowAt ((killRows q S.rows).set q none) r = none
    by_cases hlt : q < (killRows q S.rows).length
    · rw [rowAt_set _ _ _ _ hlt]
      split
      · rfl
      · rw [rowAt_killRows, h]; rfl
    · rw [List.set_eq_of_length_le (by omega), rowAt_killRows, h]; rfl
theorem lent_fin (hi : Inv E G gs S tmps w) {rs : List Nat} {gs0 : Gh} (hgs0 : ∀ r, r ∉ rs → gs0 r = gs r) (hno : ∀ r ∈ rs, rowAt (S.turns rs).rows r = none) (hrow : ∀ r ∈ rs, ∃ row, rowAt S.rows r = some row) :
    ∀ r ∈ rs, ∀ b ∈ gs.all r, ¬ (envL E G gs gs0 S rs tmps w).Fin b := fun r hr b hb ⟨r', row', hr', hb'⟩ => by
  obtain ⟨row, hrw⟩ := hrow r hr
  have hne : r' ∉ rs := fun h => by rw [hno r' h] at hr'; cases hr'
  have e : gs0.all r' = gs.all r' := by simp only [Gh.all, hgs0 r' hne]
  rw [e] at hb'
  obtain ⟨row0, h0⟩ : ∃ row0, rowAt S.rows r' = some row0 := by
    cases h : rowAt S.rows r' with
    | none => rw [turns_none h] at hr'; cases hr'
    | some row0 => exact ⟨row0, rfl⟩
  exact hi.dis r r' row row0 hrw h0 (fun e => hne (by rw [← e]; exact hr)) b hb hb'
theorem lent_agree (hi : Inv E G gs S tmps w) {rs : List Nat} {gs0 : Gh} (hgs0 : ∀ r, r ∉ rs → gs0 r = gs r) (hno : ∀ r ∈ rs, rowAt (S.turns rs).rows r = none) {G' : Nat → Prop} {gs2 : Gh} {S2 : State} {tmps' : Array Value} {w' : World}
    (hi2 : Inv (envL E G gs gs0 S rs tmps w) G' gs2 S2 tmps' w') (hrow : ∀ r ∈ rs, ∃ row, rowAt S.rows r = some row) : AgreeR G gs rs w w' := fun b hb => by
  rcases hb with hb | ⟨r, hr, hb⟩
  · refine hi2.keep b (hi.glt b hb) fun ⟨r', row', hr', hb'⟩ => ?_
    have hne : r' ∉ rs := fun h => by rw [hno r' h] at hr'; cases hr'
    have e : gs0.all r' = gs.all r' := by simp only [Gh.all, hgs0 r' hne]
    rw [e] at hb'
    obtain ⟨row0, h0⟩ : ∃ row0, rowAt S.rows r' = some row0 := by
      cases h : rowAt S.rows r' with
      | none => rw [turns_none h] at hr'; cases hr'
      | some row0 => exact ⟨row0, rfl⟩
    exact (hi.own r' row0 h0 b hb').1 hb
  · obtain ⟨row, hrw⟩ := hrow r hr
    exact hi2.keep b (hi.block_lt hrw b hb) (lent_fin hi hgs0 hno hrow r hr b hb)
theorem Inv.unlend (hi : Inv E G gs S tmps w) {rs hs : List Nat} {gs0 : Gh} (hgs0 : ∀ r, r ∉ rs → gs0 r = gs r) (hno : ∀ r ∈ rs, rowAt (S.turns rs).rows r = none) {G' : Nat → Prop} {gs2 : Gh} {S2 : State} {tmps' : Array Value} {w' : World}
    (hi2 : Inv (envL E G gs gs0 S rs tmps w) G' gs2 S2 tmps' w') (h1 : ∀ i ∈ hs, lk S2.t i = .sc (vat E tmps i)) (h2 : ∀ r ∈ rs, rowAt S2.rows r = none ∧ r < S2.rows.length)
    (hon : ∀ i ∈ hs, onlyR rs (lk S.t i) = true) (hrow : ∀ r ∈ rs, ∃ row, rowAt S.rows r = some row ∧ rowOnly rs row = true) :
    Inv (envAt E G gs S w) G' (fun r => if r ∈ rs then gs r else gs2 r) (S2.unlend S rs hs) tmps' w' ∧ AgreeR G gs rs w w' := by
  have hsame : ∀ r, rowAt S.rows r = none → rowAt (S.turns rs).rows r = none := fun r h => turns_none h
  have hrow' : ∀ r ∈ rs, ∃ row, rowAt S.rows r = some row := fun r hr => let ⟨row, h, _⟩ := hrow r hr; ⟨row, h⟩
  have hfin := lent_fin (E := E) hi hgs0 hno hrow'
  have hag := lent_agree hi hgs0 hno hi2 hrow'
  refine ⟨?_, hag⟩
  have hG : ∀ b, G b → G' b ∧ w'.heap[b]? = w.heap[b]? := fun b hb => ⟨hi2.gsub b hb, hag b (.inl hb)⟩
  have hrat : ∀ r, rowAt (S2.unlend S rs hs).rows r = if r ∈ rs then rowAt S.rows r else rowAt S2.rows r := fun r => rowAt_backR S rs S2.rows r fun q hq => (h2 q hq).2
  have hleS : ∀ r ∈ rs, RowLe w w' S.rows (S2.unlend S rs hs).rows gs (fun r => if r ∈ rs then gs r else gs2 r) r := fun r hr => RowLe.mk fun row hrw => by
    refine ⟨row, by rw [hrat, if_pos hr]; exact hrw, by simp [hr], rfl, rfl, fun b cur e hob hh => ⟨cur, e, ?_, rfl⟩⟩
    rw [hag b (.inr ⟨r, hr, by simp [Gh.all, hob]⟩)]; exact hh
  have hle2 : ∀ r, RowLe w' w' S2.rows (S2.unlend S rs hs).rows gs2 (fun r => if r ∈ rs then gs r else gs2 r) r := fun r => RowLe.refl_of fun row hrw => by
    have hne : r ∉ rs := fun h => by rw [(h2 r h).1] at hrw; cases hrw
    exact ⟨by rw [hrat, if_neg hne]; exact hrw, by simp [hne], fun _ _ => rfl⟩
  have hall1 : ∀ r ∈ rs, Gh.all (fun r => if r ∈ rs then gs r else gs2 r) r = gs.all r := fun r hr => by simp only [Gh.all, if_pos hr]
  have hall2 : ∀ r, r ∉ rs → Gh.all (fun r => if r ∈ rs then gs r else gs2 r) r = gs2.all r := fun r hr => by simp only [Gh.all, if_neg hr]
  have hsz : (envL E G gs gs0 S rs tmps w).w0 = w := rfl
  have fin2 : ∀ b, (envL E G gs gs0 S rs tmps w).Fin b → (envAt E G gs S w).Fin b := fun b ⟨r', row', hr', hb'⟩ => by
    have hne : r' ∉ rs := fun h => by rw [hno r' h] at hr'; cases hr'
    have e : gs0.all r' = gs.all r' := by simp only [Gh.all, hgs0 r' hne]
    rw [e] at hb'
    cases h : rowAt S.rows r' with
    | none => rw [hsame r' h] at hr'; cases hr'
    | some row0 => exact ⟨r', row0, h, hb'⟩
  have hdis : ∀ r ∈ rs, ∀ r' row', r' ∉ rs → rowAt S2.rows r' = some row' → ∀ b ∈ gs.all r, b ∉ gs2.all r' := fun r hr r' row' hne hr' b hb hb' => by
    obtain ⟨row, hrw, _⟩ := hrow r hr
    rcases (hi2.own r' row' hr' b hb').2 with h | h
    · exact hfin r hr b hb h
    · have := hi.block_lt hrw b hb
      rw [hsz] at h
      omega
  refine ⟨fun b hb hf => hi2.keep b hb fun h => hf (fin2 b h), hi2.os, hi2.tape, hi2.output, hi2.size, hi2.sz, hi2.gsub, fun b hb => (hi2.gnew b hb).imp id (Or.imp (fin2 b) id), hi2.glt, fun r row hr => ?_, fun r row hr => ?_, fun r row hr b hb => ?_, fun r r' row row' hr hr' hne b hb hb' => ?_, fun i => ?_⟩
  · rw [hrat] at hr
    split at hr
    · rename_i h
      obtain ⟨row0, h0, h3⟩ := hrow r h
      rw [hr] at h0
      obtain rfl := Option.some.inj h0
      rw [if_pos h]
      exact (hi.row r row hr).on hG hleS h3 fun b hb => hag b (.inr ⟨r, h, hb⟩)
    · rename_i h
      rw [if_neg h]
      exact (hi2.row r row hr).step (fun b hb => ⟨hb, rfl⟩) hle2 fun _ _ => rfl
  · rw [hrat] at hr
    split at hr
    · rename_i h; rw [hall1 r h]; exact hi.nod r row hr
    · rename_i h; rw [hall2 r h]; exact hi2.nod r row hr
  · rw [hrat] at hr
    split at hr
    · rename_i h
      rw [hall1 r h] at hb
      refine ⟨fun hg => ?_, .inl ⟨r, row, hr, hb⟩⟩
      rcases hi2.gnew b hg with h' | h' | h'
      · exact (hi.own r row hr b hb).1 h'
      · exact hfin r h b hb h'
      · have := hi.block_lt hr b hb
        rw [hsz] at h'
        omega
    · rename_i h
      rw [hall2 r h] at hb
      obtain ⟨g1, g2⟩ := hi2.own r row hr b hb
      exact ⟨g1, g2.imp (fin2 b) id⟩
  · rw [hrat] at hr hr'
    split at hr
    · rename_i h
      rw [hall1 r h] at hb
      split at hr'
      · rename_i h'
        rw [hall1 r' h'] at hb'
        exact hi.dis r r' row row' hr hr' hne b hb hb'
      · rename_i h'
        rw [hall2 r' h'] at hb'
        exact hdis r h r' row' h' hr' b hb hb'
    · rename_i h
      rw [hall2 r h] at hb
      split at hr'
      · rename_i h'
        rw [hall1 r' h'] at hb'
        exact hdis r' h' r row h hr b hb' hb
      · rename_i h'
        rw [hall2 r' h'] at hb'
        exact hi2.dis r r' row row' hr hr' hne b hb hb'
  · show TRel w' G' (S2.unlend S rs hs).rows _ (lk (backT S hs S2.t) i) (vat (envAt E G gs S w) tmps' i) []
    rw [lk_backT]
    have hv : vat (envAt E G gs S w) tmps' i = vat (envL E G gs gs0 S rs tmps w) tmps' i := rfl
    rw [hv]
    split
    · rename_i h
      have h3 := hi2.tmp i
      rw [h1 i h] at h3
      rw [(sc_inv h3).1]
      exact (hi.tmp i).on hG hleS (hon i h) (by simp)
    · exact (hi2.tmp i).step (fun b hb => ⟨hb, rfl⟩) hle2 (by simp)
end
end Go.Fw

/- Regions that draw their order, in which some operations read rows that others leave alone: what is read, and the rule. Plain theorems, no condition. -/
set_option linter.unusedVariables false
set_option linter.unusedSimpArgs false
namespace Go.Fw
section
variable {P : Program} {T : Nat → Option TI} {S : State} {o : Oper} {rs : List Nat}
/-- The operation yields a value told by x, the same one as long as what may be read, and rows rs, stand. -/
def VOR (P : Program) (o : Oper) (S : State) (rs : List Nat) (x : A) : Prop :=
  ∀ (E : Env P) (G : Nat → Prop) (gs : Gh) (a : Act) (w : World), Inv E G gs S a.tmps w →
    ∃ v, (∀ w', AgreeR G gs rs w w' → (execOp a.eval o).run P w' = .ok (.value v) w') ∧ TRel w G S.rows gs x v []
theorem VOG.r {x : A} (h : VOG P o S x) : VOR P o S rs x := fun E G gs a w hi => by
  obtain ⟨v, h1, h2⟩ := h E G gs a w hi
  exact ⟨v, fun w' hw' => h1 w' fun b hb => hw' b (.inl hb), h2⟩
theorem VOR_load_pt {t : TypeId} {x : Operand} {r j q : Nat} {row : Row} {y z : A} (ho : o.op = .load t x) (hx : okO x = true) (he : ev S x = .pt r j q) (hr : rowAt S.rows r = some row) (hrs : r ∈ rs)
    (hy : row.xs[j]? = some y) (ha : aggT P t = some false) (hz : y.cells[q]? = some z) (hno : noOwn z = true) : VOR P o S rs z := by
  refine fun E G gs a w hi => ?_
  have h1 := ev_rel hi x hx
  rw [he] at h1
  obtain ⟨row', b, hr', hb, hv⟩ := pt_inv h1
  rw [hr] at hr'
  obtain rfl := Option.some.inj hr'
  have hq : q < y.cells.length := by
    rcases Nat.lt_or_ge q y.cells.length with h | h
    · exact h
    · rw [List.getElem?_eq_none h] at hz; simp at hz
  have hw : y.width = row.n := by
    obtain ⟨b', _, hrc⟩ := row_real hi hr (by
      intro h0
      rw [List.eq_nil_of_length_eq_zero h0] at hy
      simp at hy)
    obtain ⟨_, _, _, _, _, _, _, h5, _⟩ := hrc.ex
    exact h5 y (List.mem_of_getElem? hy)
  unfold A.width at hw
  have hseg : (y.cells.drop q).take 1 = [z] := by
    rw [List.drop_eq_getElem_cons hq]
    rw [List.getElem?_eq_getElem hq] at hz
    simp only [Option.some.injEq] at hz
    simp [hz]
  obtain ⟨b1, cur, e, cs, g0, g1, g2, g3, g4⟩ := row_seg hi hr hy (o := q) (s := 1) (by omega) (by rw [hseg]; simpa using hno)
  rw [hb] at g0
  obtain rfl := Option.some.inj g0
  rw [hseg] at g3
  obtain ⟨v, hv1, hv2⟩ := g3.get 0 z rfl
  have hcur : cur[j * row.n + q]? = some v := by
    rw [← g2] at hv1
    rw [List.getElem?_take_of_lt (by omega), List.getElem?_drop] at hv1
    simpa using hv1
  exact ⟨v, fun w' hw' => by simp [execOp, ho, Instr.loadAt, hv, Instr.sureAddr, run_loadVar_cell ha ((hw' _ (.inr ⟨r, hrs, by simp [Gh.all, hb]⟩)).trans g1) hcur], hv2⟩
theorem VOR_load_ptAgg {t : TypeId} {x : Operand} {r j q s : Nat} {row : Row} {y : A} (ho : o.op = .load t x) (hx : okO x = true) (he : ev S x = .pt r j q) (hr : rowAt S.rows r = some row) (hrs : r ∈ rs)
    (hy : row.xs[j]? = some y) (ha : aggT P t = some true) (hs : szT P t = some s) (hq : q + s ≤ row.n) (hno : ((y.cells.drop q).take s).all noOwn = true) : VOR P o S rs (.agg ((y.cells.drop q).take s)) := by
  refine fun E G gs a w hi => ?_
  have h1 := ev_rel hi x hx
  rw [he] at h1
  obtain ⟨row', b, hr', hb, hv⟩ := pt_inv h1
  rw [hr] at hr'
  obtain rfl := Option.some.inj hr'
  obtain ⟨b1, cur, e, cs, g0, g1, g2, g3, g4⟩ := row_seg hi hr hy hq hno
  rw [hb] at g0
  obtain rfl := Option.some.inj g0
  exact ⟨.agg cs.toArray, fun w' hw' => by simp [execOp, ho, Instr.loadAt, hv, Instr.sureAddr, run_loadVar_agg ha hs ((hw' _ (.inr ⟨r, hrs, by simp [Gh.all, hb]⟩)).trans g1) g2 g4], .agg g3⟩
theorem VOR_fieldAddr_pt {t : TypeId} {x : Operand} {i r j q off s : Nat} {g : Bool} (ho : o.op = .fieldAddr t x i) (hx : okO x = true) (he : ev S x = .pt r j q)
    (hf : fieldT P t i = some (off, s, g)) (hs : s ≠ 0) : VOR P o S rs (.pt r j (q + off)) := by
  refine fun E G gs a w hi => ?_
  have h1 := ev_rel hi x hx
  rw [he] at h1
  obtain ⟨row, b, hr, hb, hv⟩ := pt_inv h1
  unfold fieldT at hf
  split at hf <;> try simp at hf
  rename_i fs hu
  split at hf <;> try simp at hf
  rename_i f hfi
  split at hf <;> try simp at hf
  rename_i s' g' hsz hag
  obtain ⟨rfl, rfl, rfl⟩ := hf
  refine ⟨.pointer (some ⟨b, j * row.n + (q + f.offset), none⟩), ?_, .pt hr hb rfl⟩
  intro w' hw'
  simp [execOp, ho, Instr.fieldAt, run_underlying hu, hfi, hv, Instr.sureAddr, fieldPlace, run_sizeOf hsz, hs, add_none, Nat.add_assoc]
theorem VOR_fieldAddr_rp {t : TypeId} {x : Operand} {xs : List A} {i off s : Nat} {g : Bool} (ho : o.op = .fieldAddr t x i) (hx : okO x = true) (he : ev S x = .rp xs)
    (hf : fieldT P t i = some (off, s, g)) (hs : s ≠ 0) : VOR P o S rs (.rp (xs.drop off)) := by
  refine fun E G gs a w hi => ?_
  have h1 := ev_rel hi x hx
  rw [he] at h1
  obtain ⟨b, k, cur, e, fr, hv, hh, hg, hl⟩ := rp_inv h1
  unfold fieldT at hf
  split at hf <;> try simp at hf
  rename_i fs hu
  split at hf <;> try simp at hf
  rename_i f hfi
  split at hf <;> try simp at hf
  rename_i s' g' hsz hag
  obtain ⟨rfl, rfl, rfl⟩ := hf
  refine ⟨.pointer (some ⟨b, k + f.offset, none⟩), ?_, .of (.rp hh hg rfl ?_)⟩
  · intro w' hw'
    simp [execOp, ho, Instr.fieldAt, run_underlying hu, hfi, hv, Instr.sureAddr, fieldPlace, run_sizeOf hsz, hs, add_none]
  · have := hl.drop0 f.offset
    rw [List.drop_take, List.drop_drop] at this
    simpa using this
theorem VOR_indexAddr_vw {t e : TypeId} {x y : Operand} {r off len : Nat} {k : IntKind} {i : Int} {row : Row} (ho : o.op = .indexAddr t x y) (hx : okO x = true) (hy : okO y = true)
    (h1 : ev S x = .vw r off len) (h2 : ev S y = .sc (.int k i)) (hr : rowAt S.rows r = some row) (he : elemT P t = some e) (hs : szT P e = some row.n) (h0 : 0 ≤ i) (hl : i < len)
    : VOR P o S rs (.pt r (off + i.toNat) 0) := by
  refine fun E G gs a w hi => ?_
  have e1 := ev_rel hi x hx
  have e2 := ev_rel hi y hy
  rw [h1] at e1
  rw [h2] at e2
  obtain ⟨row', kk, cap, cur, et, b, hr', hob, g1, g2, g3, g4, g5, g6, hv⟩ := (vw_inv e1).resolve_right (by
    intro ⟨_, _, _, _, _, h0, _⟩
    omega)
  rw [hr] at hr'
  obtain rfl := Option.some.inj hr'
  have hv2 := (sc_inv e2).1
  have hk : kk = off * row.n := by rcases g6 with h | h <;> omega
  subst hk
  refine ⟨_, ?_, .pt hr hob rfl⟩
  intro w' hw'
  simp [execOp, ho, hv, hv2, Instr.indexAt, asIntOf, run_underlying (elemT_inv he), h0, hl, run_sizeOf hs, add_none, Nat.add_mul]
theorem VOR_indexAddr_sl {t e : TypeId} {x y : Operand} {n : Nat} {xs : List A} {k : IntKind} {i : Int} {z : A} (ho : o.op = .indexAddr t x y) (hx : okO x = true) (hy : okO y = true)
    (h1 : ev S x = .sl false n xs) (h2 : ev S y = .sc (.int k i)) (he : elemT P t = some e) (hs : szT P e = some n) (h0 : 0 ≤ i) (hz : xs[i.toNat]? = some z)
    : VOR P o S rs (.rp z.cells) := by
  refine fun E G gs a w hi => ?_
  have e1 := ev_rel hi x hx
  have e2 := ev_rel hi y hy
  rw [h1] at e1
  rw [h2] at e2
  have hv2 := (sc_inv e2).1
  have hl : i.toNat < xs.length := by
    rcases Nat.lt_or_ge i.toNat xs.length with h | h
    · exact h
    · rw [List.getElem?_eq_none h] at hz; simp at hz
  rcases slf_inv e1 with ⟨_, rfl⟩ | ⟨b, kk, cap, cur, et, fr, hv, hh, hg, hw, hrel, hcap, hm⟩
  · simp at hl
  · refine ⟨.pointer (some ⟨b, kk + i.toNat * n, none⟩), ?_, .of (.rp hh hg rfl ?_)⟩
    · have : i < (xs.length : Int) := by omega
      intro w' hw'
      simp [execOp, ho, hv, hv2, Instr.indexAt, asIntOf, run_underlying (elemT_inv he), h0, this, run_sizeOf hs, add_none]
    · have h3 := (hrel.drop0 (i.toNat * n)).take0 n
      have hseg := flat_seg hw hz 0 n (by omega)
      simp only [Nat.add_zero, List.drop_zero] at hseg
      have hzw := hw z (List.mem_of_getElem? hz)
      unfold A.width at hzw
      rw [hseg, ← hzw, List.take_length, hzw] at h3
      have hle : (i.toNat + 1) * n ≤ xs.length * n := Nat.mul_le_mul_right _ hl
      rw [Nat.add_mul] at hle
      rw [List.drop_take, List.take_take, Nat.min_eq_left (by omega), List.drop_drop] at h3
      rw [hzw]
      exact h3
theorem VOR_nilCheck_pt {x : Operand} {r j q : Nat} (ho : o.op = .nilCheck x) (hx : okO x = true) (he : ev S x = .pt r j q)
    : VOR P o S rs (.pt r j q) := by
  refine fun E G gs a w hi => ?_
  have h1 := ev_rel hi x hx
  rw [he] at h1
  obtain ⟨row, b, hr, hb, hv⟩ := pt_inv h1
  exact ⟨_, fun w' hw' => by simp [execOp, ho, hv], hv ▸ h1⟩
theorem VOR_nilCheck_rp {x : Operand} {xs : List A} (ho : o.op = .nilCheck x) (hx : okO x = true) (he : ev S x = .rp xs)
    : VOR P o S rs (.rp xs) := by
  refine fun E G gs a w hi => ?_
  have h1 := ev_rel hi x hx
  rw [he] at h1
  obtain ⟨b, k, cur, e, fr, hv, hh, hg, hl⟩ := rp_inv h1
  exact ⟨_, fun w' hw' => by simp [execOp, ho, hv], hv ▸ h1⟩
theorem vFieldAddrR_ok {k : A → Prop} (hT : TabOK P T) {t : TypeId} {x : Operand} {i : Nat} (ho : o.op = .fieldAddr t x i) (h : vFieldAddr T t i (ev S x) k) : ∃ z, VOR P o S rs z ∧ k z := by
  unfold vFieldAddr at h
  split at h <;> try exact h.elim
  rename_i ti hi
  have hti := tiOf_ok (hT _ _ hi)
  split at h <;> try exact h.elim
  rename_i off s g hf
  split at h <;> try exact h.elim
  rename_i hs
  split at h <;> try exact h.elim
  · rename_i r j q hx
    exact ⟨_, VOR_fieldAddr_pt ho rfl hx (hti.fs _ _ hf) hs, h⟩
  · rename_i xs hx
    exact ⟨_, VOR_fieldAddr_rp ho rfl hx (hti.fs _ _ hf) hs, h⟩
theorem VOR_indexAddr_pa {t : TypeId} {x y : Operand} {r j q n s : Nat} {k : IntKind} {i : Int} (ho : o.op = .indexAddr t x y) (hx : okO x = true) (hy : okO y = true)
    (h1 : ev S x = .pt r j q) (h2 : ev S y = .sc (.int k i)) (ha : arT P t = some (n, s)) (h0 : 0 ≤ i) (hl : i < n) : VOR P o S rs (.pt r j (q + i.toNat * s)) := by
  refine fun E G gs a w hi => ?_
  have e1 := ev_rel hi x hx
  have e2 := ev_rel hi y hy
  rw [h1] at e1
  rw [h2] at e2
  obtain ⟨row, b, hr, hb, hv⟩ := pt_inv e1
  have hv2 := (sc_inv e2).1
  unfold arT at ha
  split at ha
  case h_2 => cases ha
  rename_i n' e hu
  obtain ⟨s', hs, hns⟩ := Option.map_eq_some_iff.1 ha
  obtain ⟨rfl, rfl⟩ := Prod.mk.inj hns
  refine ⟨.pointer (some ⟨b, j * row.n + (q + i.toNat * s'), none⟩), ?_, .pt hr hb rfl⟩
  intro w' hw'
  simp [execOp, ho, hv, hv2, Instr.indexAt, asIntOf, run_underlying hu, Instr.sureAddr, h0, hl, run_sizeOf hs, add_none, Nat.add_assoc]
theorem vIndexAddrR_ok {k : A → Prop} (hT : TabOK P T) {t : TypeId} {x y : Operand} (ho : o.op = .indexAddr t x y) (h : vIndexAddr std T t S (ev S x) (ev S y) k) : ∃ z, VOR P o S rs z ∧ k z := by
  unfold vIndexAddr at h
  split at h <;> try exact h.elim
  · rename_i e ti k i hs hy
    obtain ⟨he, hti⟩ := szEl_ok hT hs
    split at h <;> try exact h.elim
    · rename_i r off len hx
      split at h <;> try exact h.elim
      rename_i row hr
      split at h <;> try exact h.elim
      rename_i hn
      exact ⟨_, VOR_indexAddr_vw ho rfl rfl hx hy hr he (by rw [hti.sz, hn]) h.1.h.1 h.1.h.2, h.2⟩
    · rename_i n xs hx
      split at h <;> try exact h.elim
      rename_i hn
      obtain ⟨h1, z, hz, h⟩ := h
      exact ⟨_, VOR_indexAddr_sl ho rfl rfl hx hy he (by rw [hti.sz, hn]) h1.h hz, h⟩
  · rename_i k i hs hy
    split at h <;> try exact h.elim
    rename_i ti ht
    split at h <;> try exact h.elim
    rename_i n s ha
    split at h <;> try exact h.elim
    rename_i r j q hx
    exact ⟨_, VOR_indexAddr_pa ho rfl rfl hx hy (by rw [(tiOf_ok (hT _ _ ht)).ar]; exact ha) h.1.h.1 h.1.h.2, h.2⟩
theorem vNilCheckR_ok {k : A → Prop} {x : Operand} (ho : o.op = .nilCheck x) (h : vNilCheck (ev S x) k) : ∃ z, VOR P o S rs z ∧ k z := by
  unfold vNilCheck at h
  split at h <;> try exact h.elim
  · rename_i hx; exact ⟨_, VOR_nilCheck_pt ho rfl hx, h⟩
  · rename_i hx; exact ⟨_, VOR_nilCheck_rp ho rfl hx, h⟩
def vLoadR (T : Nat → Option TI) (t : TypeId) (S : State) (rs : List Nat) (x : A) (k : A → Prop) : Prop :=
  match T t with
  | some i => (match x with
    | .rp xs => if i.ag then (if i.sz ≤ xs.length then k (.agg (xs.take i.sz)) else False) else (match xs[0]? with
      | some z => k z
      | none => False)
    | .pt r j q => if rs.contains r then (match rowAt S.rows r with
      | some row => (match row.lk with
        | true => (match row.xs[j]? with
          | some y => vCell i row.n y q k
          | none => False)
        | false => ∃ y, row.xs[j]? = some y ∧ vCell i row.n y q k)
      | none => False) else False
    | _ => False)
  | none => False
theorem vLoadR_ok {k : A → Prop} (hT : TabOK P T) {t : TypeId} {x : Operand} (ho : o.op = .load t x) (h : vLoadR T t S rs (ev S x) k) : ∃ z, VOR P o S rs z ∧ k z := by
  unfold vLoadR at h
  split at h <;> try exact h.elim
  rename_i i hi
  have hti := tiOf_ok (hT _ _ hi)
  split at h <;> try exact h.elim
  · rename_i xs hx
    split at h
    · rename_i hag
      split at h <;> try exact h.elim
      rename_i hle
      exact ⟨_, (VOG_load_rpAgg ho rfl hx (by rw [hti.ag, hag]) hti.sz hle).r, h⟩
    · rename_i hag
      split at h <;> try exact h.elim
      rename_i z hz
      exact ⟨_, (VOG_load_rp ho rfl hx (by rw [hti.ag]; simpa using hag) hz).r, h⟩
  · rename_i r j q hx
    split at h <;> try exact h.elim
    rename_i hrs
    have hrs : r ∈ rs := by simpa using hrs
    split at h <;> try exact h.elim
    rename_i row hr
    have cell : ∀ y, row.xs[j]? = some y → vCell i row.n y q k → ∃ z, VOR P o S rs z ∧ k z := fun y hy h => by
      unfold vCell at h
      split at h
      · rename_i hag
        split at h <;> try exact h.elim
        rename_i hq
        split at h <;> try exact h.elim
        rename_i hno
        exact ⟨_, VOR_load_ptAgg ho rfl hx hr hrs hy (by rw [hti.ag, hag]) hti.sz hq hno, h⟩
      · rename_i hag
        split at h <;> try exact h.elim
        rename_i z hz
        split at h <;> try exact h.elim
        rename_i hno
        exact ⟨_, VOR_load_pt ho rfl hx hr hrs hy (by rw [hti.ag]; simpa using hag) hz hno, h⟩
    split at h
    · split at h <;> try exact h.elim
      rename_i y hy
      exact cell y hy h
    · obtain ⟨y, hy, h⟩ := h
      exact cell y hy h
/-- What an operation reads of rows rs, or of what nobody writes. -/
def vROp (Ω : Opq) (T : Nat → Option TI) (rs : List Nat) (o : Oper) (S : State) (k : A → Prop) : Prop :=
  match o.op with
  | .load t x => vLoadR T t S rs (ev S x) k
  | .fieldAddr t x i => vFieldAddr T t i (ev S x) k
  | .nilCheck x => vNilCheck (ev S x) k
  | .indexAddr t x y => vIndexAddr Ω T t S (ev S x) (ev S y) k
  | _ => vGOp Ω T o S k
theorem vROp_ok (hT : TabOK P T) {k : A → Prop} (h : vROp std T rs o S k) : ∃ z, VOR P o S rs z ∧ k z := by
  unfold vROp at h
  split at h
  · rename_i ho; exact vLoadR_ok hT ho h
  · rename_i ho; exact vFieldAddrR_ok hT ho h
  · rename_i ho; exact vNilCheckR_ok ho h
  · rename_i ho; exact vIndexAddrR_ok hT ho h
  · obtain ⟨z, h1, h2⟩ := vGOp_ok hT h
    exact ⟨z, h1.r, h2⟩
def vRs (Ω : Opq) (T : Nat → Option TI) (rs : List Nat) (ops : List Oper) : List Nat → State → (State → Prop) → Prop
  | [], S, K => K S
  | q :: qs, S, K => match ops[q]? with
    | some o => (match o.guard with
      | none => vROp Ω T rs o S fun z => vRs Ω T rs ops qs (S.put o.dst z) K
      | some _ => False)
    | none => False
def chainB (ops : Array Oper) : List Nat → Array Bool → Bool
  | [], _ => true
  | n :: ns, l => decide (Region.ready .any ops l = [n]) && chainB ops ns (l.setIfInBounds n true)
def listAll : List Nat → Array Bool → Array Bool
  | [], l => l
  | n :: ns, l => listAll ns (l.setIfInBounds n true)
def quietB (ops : Array Oper) (kp : Nat → Bool) : List Nat → Array Bool → Bool
  | [], _ => true
  | q :: qs, l => (Region.ready .any ops l).contains q && (kfree .any ops kp l q && (quietB ops kp qs (l.setIfInBounds q true)))
/-- qs read, n1 leave the lent rows alone, n2 come last. -/
def lentB (ops : Array Oper) (qs n1 n2 : List Nat) : Bool :=
  Region.noSelect ops && (decide (qs.length + (n1.length + n2.length) = ops.size) && (quietB ops (fun j => !n2.contains j) qs (Array.replicate ops.size false) &&
    (n1.all (fun j => !n2.contains j) && (chainB ops n1 (listAll qs (Array.replicate ops.size false)) && (chainB ops n2 (listAll n1 (listAll qs (Array.replicate ops.size false))) &&
    (Region.ready .any ops (listAll n2 (listAll n1 (listAll qs (Array.replicate ops.size false))))).isEmpty)))))
variable {ops : List Oper} {Q : Exit → Act → World → Prop} {kp : Nat → Bool} {Sc : World → Prop}
theorem chain_ok (hT : TabOK P T) {E : Env P} {m : Nat} : ∀ (ns : List Nat) (l : Array Bool) (mv : Option Nat) (S : State) (K : State → Prop) (a : Act) (w : World), chainB ops.toArray ns l = true →
    (∀ n ∈ ns, kp n = true → ∀ S a w, SInv E S a w → Sc w) → vNs std P T ops mv ns S K → SInv E S a w →
    (∀ S' a' w', K S' → SInv E S' a' w' → anyK P .any ops.toArray Q kp Sc m (listAll ns l) a' w') → anyK P .any ops.toArray Q kp Sc (ns.length + m) l a w
  | [], l, mv, S, K, a, w, hB, hSc, h, hs, hK => by rw [List.length_nil, Nat.zero_add]; exact hK S a w h hs
  | n :: ns, l, mv, S, K, a, w, hB, hSc, h, hs, hK => by
    simp only [chainB, Bool.and_eq_true, decide_eq_true_eq] at hB
    unfold vNs at h
    split at h <;> try exact h.elim
    rename_i o ho
    split at h <;> try exact h.elim
    rename_i hg
    rw [List.length_cons, show ns.length + 1 + m = (ns.length + m) + 1 by omega]
    refine ⟨fun h0 => (by rw [hB.1] at h0; cases h0), fun i hi => ?_⟩
    rw [hB.1] at hi
    have hin : i = n := by simpa using hi
    subst hin
    unfold wpOp
    rw [show ops.toArray[i]? = some o by simpa using ho]
    simp only
    rw [if_pos (by simp [Region.wanted, hg])]
    exact .inl (vOp_ok hT h E a w _ _ hs fun S' a' w' hK' hs' => ⟨fun hk => hSc i (by simp) hk _ _ _ hs', chain_ok hT ns _ _ S' K a' w' hB.2 (fun n hn => hSc n (by simp [hn])) hK' hs' hK⟩)
theorem put_rows (S : State) (d : Option Nat) (z : A) : (S.put d z).rows = S.rows := by
  cases d with
  | none => rfl
  | some d => simp only [State.put]; split <;> rfl
theorem quiet_ok (hT : TabOK P T) {E : Env P} {G : Nat → Prop} {gs : Gh} {w : World} {m : Nat} {rs : List Nat} (hQ : ∀ c a w, ¬ Q (.panic c) a w) (hsel : Region.noSelect ops.toArray = true) {K : State → Prop} : ∀ (qs : List Nat) (l : Array Bool) (S : State) (a : Act), quietB ops.toArray kp qs l = true →
    vRs std T rs ops qs S K → a.defers = [] → Inv E G gs S a.tmps w → (∀ S' a', K S' → S'.rows = S.rows → a'.defers = [] → Inv E G gs S' a'.tmps w → anyK P .any ops.toArray Q kp (AgreeR G gs rs w) m (listAll qs l) a' w) →
    anyK P .any ops.toArray Q kp (AgreeR G gs rs w) (qs.length + m) l a w
  | [], l, S, a, hB, h, hd, hi, hK => by rw [List.length_nil, Nat.zero_add]; exact hK S a h rfl hd hi
  | q :: qs, l, S, a, hB, h, hd, hi, hK => by
    simp only [quietB, Bool.and_eq_true] at hB
    unfold vRs at h
    split at h <;> try exact h.elim
    rename_i o ho
    split at h <;> try exact h.elim
    rename_i hg
    obtain ⟨z, h1, h2⟩ := vROp_ok hT h
    obtain ⟨v, h3, h4⟩ := h1 E G gs a w hi
    rw [List.length_cons, show qs.length + 1 + m = (qs.length + m) + 1 by omega]
    refine anyK_take (oi := o) (v := v) (by simpa using ho) hsel hB.2.1 hB.1 (fun c a w h => (hQ _ _ _ h).elim) (.inl ⟨by simp [Region.wanted, hg], fun w' hw' => h3 w' hw'⟩) (fun _ _ => rfl) ?_
    exact quiet_ok hT hQ hsel qs _ _ _ hB.2.2 h2 (by rw [put_defers]; exact hd) (hi.put h4 o.dst) (fun S' a' h1 h2 => hK S' a' h1 (h2.trans (put_rows _ _ _)))
/-- What must be seen of a state whose rows rs are lent, the temporaries hs being kept. -/
def lendB (S : State) (rs hs : List Nat) : Bool :=
  decide rs.Nodup && (rs.all (fun r => match rowAt S.rows r with
    | some row => rowOnly rs row
    | none => false) && hs.all fun i => oneA' (lk S.t i) && onlyR rs (lk S.t i))
def keptA (S2 : State) (vs : Nat → Value) : List Nat → Prop
  | [] => True
  | i :: hs => lk S2.t i = .sc (vs i) ∧ keptA S2 vs hs
def backB (S2 : State) (rs : List Nat) : Bool := rs.all fun r => (match rowAt S2.rows r with
  | none => true
  | some _ => false) && decide (r < S2.rows.length)
theorem keptA_spec {S2 : State} {vs : Nat → Value} : ∀ {hs : List Nat}, keptA S2 vs hs → ∀ i ∈ hs, lk S2.t i = .sc (vs i)
  | [], _, i, hi => by cases hi
  | j :: hs, h, i, hi => by
    rcases List.mem_cons.1 hi with rfl | hi
    · exact h.1
    · exact keptA_spec h.2 i hi
/-- Who was made last. -/
def mvOf (ops : List Oper) : List Nat → Option Nat → Option Nat
  | [], mv => mv
  | n :: ns, _ => mvOf ops ns (match ops[n]? with
    | some o => madeBy o
    | none => none)
/-- A region that draws its order: qs read rows rs; n1 leave these alone; n2 come behind all. -/
theorem VC_lent (hT : TabOK P T) {Ω : Opq} (hΩ : Ω = std) (hm : P.follows .mixedOrders = true) (qs n1 n2 rs hs : List Nat) {id : Nat} {ops : Array Oper} {K : Exit → State → Prop} (hB : lentB ops qs n1 n2 = true)
    (h : vRs Ω T rs ops.toList qs S fun S1 => lendB S1 rs hs = true ∧ ∀ vs : Nat → Value, vNs Ω P T ops.toList none n1 (S1.lend rs hs vs) fun S2 => keptA S2 vs hs ∧ backB S2 rs = true ∧
      vNs Ω P T ops.toList (mvOf ops.toList n1 none) n2 (S2.unlend S1 rs hs) (K .normal)) : VC P (.region id ops true) S K := by
  subst hΩ
  intro E a w hs0
  have hops : ops = ops.toList.toArray := by simp
  rw [hops] at hB ⊢
  obtain ⟨hd, G, gs, hi⟩ := hs0
  simp only [lentB, Bool.and_eq_true, decide_eq_true_eq] at hB
  obtain ⟨hsel, hsz, hq, hkp, hc1, hc2, hend⟩ := hB
  have hw1 : Go.RowKit.Below w.heap.size w { w with drawn := w.drawn + 1 } := ⟨rfl, rfl, rfl, Nat.le_refl _, fun _ _ => rfl⟩
  have hi1 : Inv E G gs S a.tmps { w with drawn := w.drawn + 1 } := hi.below hw1 (fun _ h => h) (fun _ h => .inl h) (fun b h => Nat.lt_of_lt_of_le (hi.glt b h) hw1.size)
  generalize hw1e : { w with drawn := w.drawn + 1 } = w1 at *
  have hwp : wpAny P .any ops.toList.toArray (fun e a' w' => e = .normal ∧ ∃ S', (∃ S1, S1.rows = S.rows ∧ SInv (envAt E G gs S1 w1) S' a' w') ∧ K .normal S') ops.toList.toArray.size (Array.replicate ops.toList.toArray.size false) a w1 := by
    refine any_of_K (kp := fun j => !n2.contains j) (Sc := AgreeR G gs rs w1) _ _ _ _ ?_
    have e1 : ops.toList.toArray.size = qs.length + (n1.length + (n2.length + 0)) := by omega
    refine Eq.mp (congrArg (fun n => anyK P .any ops.toList.toArray _ _ _ n (Array.replicate ops.toList.toArray.size false) a w1) e1.symm) ?_
    refine quiet_ok (rs := rs) hT (fun c a w h => by cases h.1) hsel qs _ S a hq h hd hi1 ?_
    rintro S1 a1 ⟨hl, hvs⟩ hr1 hd1 hi2
    simp only [lendB, Bool.and_eq_true, decide_eq_true_eq, List.all_eq_true] at hl
    obtain ⟨hnd, hrows, hhs⟩ := hl
    have hrow : ∀ r ∈ rs, ∃ row, rowAt S1.rows r = some row ∧ rowOnly rs row = true := fun r hr => by
      have := hrows r hr
      split at this
      · rename_i row h; exact ⟨row, h, this⟩
      · cases this
    obtain ⟨gs0, hl1, hl2, hl3⟩ := hi2.lend (rs := rs) (hs := hs) hnd (fun r hr => let ⟨row, h, _⟩ := hrow r hr; ⟨row, h⟩) (fun i hi => (hhs i hi).1)
    have hSc : ∀ S' a' w', SInv (envL E G gs gs0 S1 rs a1.tmps w1) S' a' w' → AgreeR G gs rs w1 w' := fun S' a' w' ⟨_, G', gs', hi'⟩ => by
      have hcore := lent_agree hi2 hl2 hl3 hi' (fun r hr => let ⟨row, h, _⟩ := hrow r hr; ⟨row, h⟩)
      exact hcore
    refine chain_ok hT n1 _ none _ _ a1 w1 hc1 (fun n _ _ S' a' w' hs' => hSc S' a' w' hs') (hvs (vat E a1.tmps)) ⟨hd1, G, gs0, hl1⟩ ?_
    rintro S2 a2 w2 ⟨hk, hb, hn2⟩ ⟨hd2, G2, gs2, hi3⟩
    simp only [backB, List.all_eq_true, Bool.and_eq_true, decide_eq_true_eq] at hb
    obtain ⟨hu, _⟩ := hi2.unlend (hs := hs) hl2 hl3 hi3 (keptA_spec hk) (fun r hr => by
      obtain ⟨h1, h2⟩ := hb r hr
      refine ⟨?_, h2⟩
      split at h1
      · assumption
      · cases h1) (fun i hi => (hhs i hi).2) hrow
    refine chain_ok hT n2 _ _ _ _ a2 w2 hc2 (fun n hn hk => by simp [hn] at hk) hn2 ⟨hd2, G2, _, hu⟩ ?_
    intro S3 a3 w3 hK3 hs3
    exact ⟨by simpa using hend, rfl, S3, ⟨S1, hr1, hs3⟩, hK3⟩
  have hwp2 : (Code.region id ops.toList.toArray true).wp P (fun e a' w' => e = .normal ∧ ∃ S', (∃ S1, S1.rows = S.rows ∧ SInv (envAt E G gs S1 w1) S' a' w') ∧ K .normal S') a w := wp_region_any hm (by rw [hw1e]; exact hwp)
  refine wp_mono hwp2 ?_
  rintro e a' w' ⟨rfl, S', ⟨S1, hr1, hd', G', gs', hi'⟩, hK'⟩
  have e2 : envAt E G gs S1 w1 = envAt E G gs S w1 := by unfold envAt; rw [hr1]
  rw [e2] at hi'
  exact ⟨S', ⟨hd', G', gs', hi1.back hi'⟩, hK'⟩
end
end Go.Fw

/- The same rules with lengths kept shut. Plain theorems, no condition. -/
import Derived.Test.YtdngjnjapihbkaaFw23
set_option linter.unusedVariables false
set_option linter.unusedSimpArgs false
namespace Go.Fw
def rootO (Ω : Opq) : Nat → State → A → A × State
  | 0, S, x => (x, S)
  | k + 1, S, x => match x with
    | .sl true n xs => (.vw S.rows.length 0 (Ω.len xs), S.addRow ⟨n, xs, false⟩)
    | .bx xs => (.pt S.rows.length 0 0, S.addRow ⟨xs.length, [.agg xs], true⟩)
    | .agg xs => (.agg (rootOL k S xs).1, (rootOL k S xs).2)
    | .tup xs => (.tup (rootOL k S xs).1, (rootOL k S xs).2)
    | x => (x, S)
where rootOL (k : Nat) (S : State) : List A → List A × State
    | [] => ([], S)
    | x :: xs => ((rootO Ω k S x).1 :: (rootOL k (rootO Ω k S x).2 xs).1, (rootOL k (rootO Ω k S x).2 xs).2)
theorem rootOL_std {k : Nat} (ih : ∀ S x, rootO std k S x = rootA k S x) : ∀ (xs : List A) (S : State), rootO.rootOL std k S xs = rootA.rootL k S xs
  | [], S => by rw [rootO.rootOL, rootA.rootL]
  | x :: xs, S => by rw [rootO.rootOL, rootA.rootL, ih, rootOL_std ih xs]
theorem rootO_std : ∀ (k : Nat) (S : State) (x : A), rootO std k S x = rootA k S x
  | 0, S, x => by rw [rootO, rootA]
  | k + 1, S, x => by
    have ih := rootOL_std (rootO_std k)
    unfold rootO rootA
    cases x with
    | sl o n xs => cases o <;> rfl
    | agg xs => simp only; rw [ih]
    | tup xs => simp only; rw [ih]
    | _ => rfl
def entryO (Ω : Opq) (k N : Nat) (xs : List A) : State :=
  ⟨entryT 0 (rootO.rootOL Ω k ⟨[], N, []⟩ xs).1 ++ entryT N (rootO.rootOL Ω k ⟨[], N, []⟩ xs).1, N, (rootO.rootOL Ω k ⟨[], N, []⟩ xs).2.rows⟩
section
variable {P : Program} {T : Nat → Option TI} {S : State} {Ω : Opq}
theorem call_pure (hΩ : Ω = std) (k : Nat) {g : Nat} {args ys0 ys : List A} {x : A} {K : A → State → Prop} (hc : PCtr P g ys x) (h1 : mapO (roO S k) args = some ys0) (h2 : fitA.fitL k ys0 ys) (hx : roFree x = true)
    (hno : noOwn (rootO Ω k S x).1 = true) (hK : K (rootO Ω k S x).1 (rootO Ω k S x).2) : CallX P g args S K := by
  subst hΩ
  rw [rootO_std] at hno hK
  exact ⟨CallOK_pure hc h1 h2 hx hno hK⟩
theorem call_share (hΩ : Ω = std) (k : Nat) {g : Nat} {args ys : List A} {x : A} {K : A → State → Prop} (hc : PCtr P g ys x) (h1 : args.all isData = true) (h2 : fitA.fitL k args ys)
    (hno : noOwn (rootO Ω k S x).1 = true) (hK : K (rootO Ω k S x).1 (rootO Ω k S x).2) : CallX P g args S K := by
  subst hΩ
  rw [rootO_std] at hno hK
  exact ⟨CallOK_share hc h1 h2 hno hK⟩
theorem call_mut (hΩ : Ω = std) (k : Nat) {g : Nat} {args ys outs : List A} {x : A} {l : List (Nat × List A)} {K : A → State → Prop} (hc : MCtr P g ys x outs) (hm : MutL S args ys outs l) (hnd : (l.map (·.1)).Nodup)
    (hno : noOwn (rootO Ω k (S.mut l) x).1 = true) (hK : K (rootO Ω k (S.mut l) x).1 (rootO Ω k (S.mut l) x).2) : CallX P g args S K := by
  subst hΩ
  rw [rootO_std] at hno hK
  exact ⟨CallOK_mut hc hm hnd hno hK⟩
theorem MCtr.walkO (hT : TabOK P T) (hΩ : Ω = std) (k : Nat) {g : Nat} {c : Code} {N : Nat} {rs : List ResultVar} {xs : List A} {x : A} {outs : List A} (hf : FnAt P g c N rs) (hN : Nat.ble xs.length N = true)
    (hno : (rootO.rootOL Ω k ⟨[], N, []⟩ xs).1.all noOwn = true) (ho : outs.length = xs.length) (h : vC Ω P T c (entryO Ω k N xs) (outM Ω T N rs x outs)) : MCtr P g xs x outs := by
  have e := rootOL_std (rootO_std k)
  refine MCtr.walk hT hΩ k hf hN ?_ ho ?_
  · subst hΩ; rw [← e]; exact hno
  · have : entryO Ω k N xs = entryM k N xs := by subst hΩ; unfold entryO entryM; rw [e]
    rw [← this]; exact h
end
end Go.Fw

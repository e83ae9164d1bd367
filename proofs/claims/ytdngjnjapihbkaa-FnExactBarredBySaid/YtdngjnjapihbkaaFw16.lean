/- Calls by contract: the two rules; a contract out of a walk of the body. Plain theorems, no condition. -/
import Derived.Test.YtdngjnjapihbkaaFw15
set_option linter.unusedVariables false
set_option linter.unusedSimpArgs false
namespace Go.Fw

section
variable {P : Program} {E : Env} {G : Nat → Prop} {gs : Gh} {S : State} {a : Act} {w : World} {tmps : Array Value}

theorem RelL.anyG {w : World} {G : Nat → Prop} : ∀ {xs : List A} {vs : List Value} {F : List Nat}, RelL w G xs vs F → xs.all roFree = true → ∀ (G' : Nat → Prop), RelL w G' xs vs F
  | _, _, _, .nil, _, _ => .nil
  | _, _, _, .cons h hl, hf, G' => by
    simp only [List.all_cons, Bool.and_eq_true] at hf
    exact .cons (h.anyG hf.1 G') (hl.anyG hf.2 G')

/-- A new result is taken over. -/
theorem adopt_new (hi : Inv E G gs S tmps w) {w' : World} (hb : Go.RowKit.Below w.heap.size w w') {F : List Nat} (hnd : F.Nodup) (hnew : ∀ b ∈ F, w.heap.size ≤ b) {G' : Nat → Prop}
    (hG1 : ∀ b, G b → G' b) (hG2 : ∀ b, G' b → (G b ∨ w.heap.size ≤ b) ∧ b ∉ F) (hG3 : ∀ b, G' b → b < w'.heap.size) {x : A} {v : Value} (hx : Rel w' G' x v F) (k : Nat) (hno : noOwn (rootA k S x).1 = true) :
    ∃ gs', Inv E G' gs' (rootA k S x).2 tmps w' ∧ TRel w' G' (rootA k S x).2.rows gs' (rootA k S x).1 v [] := by
  have hi' := hi.below hb hG1 (fun b h => (hG2 b h).1) hG3
  have hR : Res E G' gs S.rows (F ++ []) := by
    rw [List.append_nil]
    refine ⟨hnd, fun b hb' => ⟨fun h => (hG2 b h).2 hb', .inr (Nat.le_trans hi.size (hnew b hb'))⟩, fun r row hr b hb' hbF => ?_⟩
    have := hi.block_lt hr b hb'
    have := hnew b hbF
    omega
  obtain ⟨gs', h1, h2⟩ := rootA_ok k S gs x v F [] hi' hR (fun b hb' => hx.lt b (by simpa using hb')) hx hno
  exact ⟨gs', h1.inv, h2⟩

theorem CallOK_pure {g k : Nat} {args ys0 ys : List A} {x : A} {K : A → State → Prop} (hc : PCtr P g ys x) (h1 : mapO (roO S k) args = some ys0) (h2 : fitA.fitL k ys0 ys) (hx : roFree x = true)
    (hno : noOwn (rootA k S x).1 = true) (hK : K (rootA k S x).1 (rootA k S x).2) : CallOK P g args S K := by
  refine ⟨hc.enter, fun E G gs tmps w vs hi hl => ?_⟩
  have hys := fitL_rel (fun x y v F => fitA_rel k x y v F) ys0 ys vs [] h2 (mapO_rel (fun x v F y h hy => roO_rel hi k x v F y h hy) hl h1)
  refine Calls.mono (hc.run w (Old w) vs (fun b h => h) hys) ?_
  rintro e w' ⟨v, F, rfl, hb, hnd, hnew, hr⟩
  have hr' : Rel w' (fun b => G b ∧ b ∉ F) x v F := hr.anyG hx _
  have hGF : ∀ b, G b → b ∉ F := fun b h hF => by have := hi.glt b h; have := hnew b hF; omega
  obtain ⟨gs', g1, g2⟩ := adopt_new hi hb hnd hnew (G' := fun b => G b ∧ b ∉ F) (fun b h => ⟨h, hGF b h⟩) (fun b h => ⟨.inl h.1, h.2⟩) (fun b h => Nat.lt_of_lt_of_le (hi.glt b h.1) hb.size) hr' k hno
  exact ⟨v, _, _, _, gs', rfl, hK, g1, g2⟩

/-- What comes back may lead into what was handed over: all of it only read. -/
theorem CallOK_share {g k : Nat} {args ys : List A} {x : A} {K : A → State → Prop} (hc : PCtr P g ys x) (h1 : args.all isData = true) (h2 : fitA.fitL k args ys)
    (hno : noOwn (rootA k S x).1 = true) (hK : K (rootA k S x).1 (rootA k S x).2) : CallOK P g args S K := by
  refine ⟨hc.enter, fun E G gs tmps w vs hi hl => ?_⟩
  have hys := fitL_rel (fun x y v F => fitA_rel k x y v F) args ys vs [] h2 (hl.data h1)
  refine Calls.mono (hc.run w G vs hi.glt hys) ?_
  rintro e w' ⟨v, F, rfl, hb, hnd, hnew, hr⟩
  have hGF : ∀ b, G b → b ∉ F := fun b h hF => by have := hi.glt b h; have := hnew b hF; omega
  obtain ⟨gs', g1, g2⟩ := adopt_new hi hb hnd hnew (fun b h => ⟨.inl h, hGF b h⟩) (fun b h => ⟨h.1.imp id And.left, h.2⟩)
    (fun b h => h.1.elim (fun h => Nat.lt_of_lt_of_le (hi.glt b h) hb.size) And.right) hr k hno
  exact ⟨v, _, _, _, gs', rfl, hK, g1, g2⟩

theorem TRel.clo_inv {rows : List (Option Row)} {g : Nat} {xs : List A} {u : Value} {F : List Nat} (h : TRel w G rows gs (.clo g xs) u F) : ∃ cs : Array Value, u = mkFn g cs.toList ∧ TRelL w G rows gs xs cs.toList F := by
  cases h with
  | of h => cases h with | clo h => rename_i cs; exact ⟨cs.toArray, rfl, by simpa using TRelL.of h⟩
  | clo h => rename_i cs; exact ⟨cs.toArray, rfl, by simpa using h⟩
theorem evs_rel (h : Inv E G gs S a.tmps w) : ∀ (xs : List Operand), TRelL w G S.rows gs (xs.map (ev S)) (xs.map a.eval) []
  | [] => .nil
  | x :: xs => by
    have := TRelL.cons (ev_rel h x rfl) (evs_rel h xs)
    simpa using this
/-- What is called, and with what, when a function value is called. -/
def cloN (g : Nat) : Nat := if g < 1000000 then g else g % 1000000
def cloA {α : Type} (g : Nat) (args caps : List α) : List α := if g < 1000000 then args ++ caps else caps ++ args
theorem clo_call {ρ : Operand → Value} {o : Oper} {ci : Call} {f : Operand} {g : Nat} {cs : List Value} (ho : o.op = .call ci) (hf : ci.callee = .value f) (hv : ρ f = mkFn g cs) (hen : Enter P (cloN g)) (w : World) :
    (execOp ρ o).run P w = .ok (.enter (cloN g) (cloA g (ci.args.toList.map ρ) cs).toArray) w := by
  unfold mkFn at hv
  unfold cloN at hen
  unfold cloA cloN
  split at hv
  · rename_i hg
    rw [if_pos hg] at hen ⊢
    rw [if_pos hg]
    have e : (ci.args.toList.map ρ ++ cs).toArray = ci.args.map ρ ++ cs.toArray := by simp
    rw [e]
    simp only [execOp, ho, resolve, hf, hv, Deferred.ofValue, Sem.run_bind, Sem.run_pure, Result.andThen_ok, invoke]
    simpa using hen _ w
  · rename_i hg
    rw [if_neg hg] at hen ⊢
    rw [if_neg hg]
    have e : (cs ++ ci.args.toList.map ρ).toArray = cs.toArray ++ ci.args.map ρ := by simp
    rw [e]
    simp only [execOp, ho, resolve, hf, hv, Deferred.ofValue, Sem.run_bind, Sem.run_pure, Result.andThen_ok, invoke]
    simpa using hen _ w
theorem cloA_rel {rows : List (Option Row)} {g : Nat} {xs ys : List A} {us vs : List Value} (h : TRelL w G rows gs xs us []) (h' : TRelL w G rows gs ys vs []) : TRelL w G rows gs (cloA g xs ys) (cloA g us vs) [] := by
  unfold cloA
  split
  · exact h.append0 h'
  · exact h'.append0 h
theorem opOK_call {o : Oper} {K : State → Prop} {ci : Call} {f : Operand} {g : Nat} {caps : List A} (ho : o.op = .call ci) (hf : ci.callee = .value f) (he : ev S f = .clo g caps)
    (h : CallOK P (cloN g) (cloA g (ci.args.toList.map (ev S)) caps) S fun x S' => K (S'.put o.dst x)) : opOK P o S K := by
  intro E a w next Q hs hn
  obtain ⟨hd, G, gs, hi⟩ := hs
  have hf' := ev_rel hi f rfl
  rw [he] at hf'
  obtain ⟨cs, hv, hcs⟩ := hf'.clo_inv
  obtain ⟨hen, hrun⟩ := h
  have hargs := cloA_rel (g := g) (evs_rel hi ci.args.toList) hcs
  have := hrun E G gs a.tmps w _ hi hargs
  unfold Oper.wp
  rw [clo_call ho hf hv hen w, Oper.upon_enter]
  refine Calls.mono this ?_
  rintro e w' ⟨v, x, S', G', gs', rfl, hK, hi', hx'⟩
  exact hn _ _ _ hK ⟨by rw [put_defers]; exact hd, G', gs', hi'.put hx' o.dst⟩

def oneV : List Value → Value
  | [v] => v
  | vs => .tuple vs.toArray
def resOK (P : Program) (tmps : Array Value) (w : World) : List ResultVar → List Value → Prop
  | [], [] => True
  | .tmp t :: rs, v :: vs => v = tmps.getD t undef ∧ resOK P tmps w rs vs
  | .cell a t :: rs, v :: vs => (∃ ad, tmps.getD a undef = .pointer (some ad) ∧ (loadVar t ad).run P w = .ok v w) ∧ resOK P tmps w rs vs
  | _, _ => False
/-- Function g of the program: its body, its temporaries, its results. -/
structure FnAt (P : Program) (g : Nat) (c : Code) (N : Nat) (rs : List ResultVar) : Prop where
  enter : Enter P g
  ex : ∃ fn, P.funcs[g]? = some fn ∧ fn.body = some c ∧ fn.ntmps = N ∧ ∀ tmps w vs, resOK P tmps w rs vs → (results fn tmps).run P w = .ok (oneV vs) w
def isTmp : ResultVar → Bool
  | .tmp _ => true
  | _ => false
theorem resOK_tmps {tmps : Array Value} {w : World} : ∀ {rs : List ResultVar} {vs : List Value}, rs.all isTmp = true → resOK P tmps w rs vs → ∃ is : List Nat, rs = is.map ResultVar.tmp ∧ vs = is.map fun i => tmps.getD i undef
  | [], [], _, _ => ⟨[], rfl, rfl⟩
  | .tmp t :: rs, v :: vs, h, h2 => by
    simp only [List.all_cons, Bool.and_eq_true] at h
    obtain ⟨is, e1, e2⟩ := resOK_tmps h.2 h2.2
    exact ⟨t :: is, by simp [e1], by simp [e2, h2.1]⟩
  | [], _ :: _, _, h2 => by simp [resOK] at h2
  | .tmp _ :: _, [], _, h2 => by simp [resOK] at h2
  | .cell _ _ :: _, _, h, _ => by simp [isTmp] at h
theorem FnAt.of {g : Nat} {fn : Func} {c : Code} {N : Nat} {rs : List ResultVar} (hf : P.funcs[g]? = some fn) (hname : (fn.name == "runtime.NumGoroutine") = false) (hb : fn.body = some c) (hN : fn.ntmps = N)
    (hr : fn.results.toList = rs) (hl : rs.length = 1 ∨ (rs.length ≤ 6 ∧ rs.all isTmp = true)) : FnAt P g c N rs := by
  have hr' : fn.results = rs.toArray := by rw [← hr]
  refine ⟨fun args w => ?_, fn, hf, hb, hN, fun tmps w vs h => ?_⟩
  · have h1 : fn.name ≠ "runtime.NumGoroutine" := by simpa using hname
    simp [callFunc, hf, h1, hb]
  · rcases hl with hl | hl
    · match rs, vs, hl, hr', h with
      | [.tmp t], [v], _, hr, h => simp [results, hr, oneV, h.1]
      | [.cell a t], [v], _, hr, h =>
        obtain ⟨⟨ad, h1, h2⟩, _⟩ := h
        rw [Array.getD_eq_getD_getElem?] at h1
        simp [results, hr, oneV, h1, asAddr, h2]
      | [.tmp t], [], _, hr, h => simp [resOK] at h
      | [.tmp t], _ :: _ :: _, _, hr, h => simp [resOK] at h
      | [.cell a t], [], _, hr, h => simp [resOK] at h
      | [.cell a t], _ :: _ :: _, _, hr, h => simp [resOK] at h
    · obtain ⟨is, rfl, rfl⟩ := resOK_tmps hl.2 h
      have hl := hl.1
      rw [List.length_map] at hl
      match is, hl, hr' with
      | [], _, hr => simp [results, hr, oneV]
      | [i], _, hr => simp [results, hr, oneV]
      | [i, j], _, hr => simp [results, hr, oneV]
      | [i, j, k], _, hr => simp [results, hr, oneV]
      | [i, j, k, l], _, hr => simp [results, hr, oneV]
      | [i, j, k, l, m], _, hr => simp [results, hr, oneV]
      | [i, j, k, l, m, n], _, hr => simp [results, hr, oneV]
      | _ :: _ :: _ :: _ :: _ :: _ :: _ :: _, hl, _ => simp at hl

def entryT : Nat → List A → List (Nat × A)
  | _, [] => []
  | i, x :: xs => (i, x) :: entryT (i + 1) xs
def entryS (N : Nat) (xs : List A) : State := ⟨entryT 0 xs, N, []⟩
theorem lk_entryT : ∀ (xs : List A) (i j : Nat), lk (entryT i xs) j = if i ≤ j then xs.getD (j - i) .un else .un
  | [], i, j => by simp [entryT, lk]
  | x :: xs, i, j => by
    simp only [entryT, lk, lk_entryT xs (i + 1) j]
    by_cases h : i = j
    · subst h; simp
    · rw [if_neg h]
      by_cases h2 : i + 1 ≤ j
      · obtain ⟨d, hd⟩ : ∃ d, j - i = d + 1 := ⟨j - i - 1, by omega⟩
        have : j - (i + 1) = d := by omega
        rw [if_pos h2, if_pos (by omega), hd, this]; simp
      · rw [if_neg h2, if_neg (by omega)]

/-- What is handed back: one value, or several. -/
def oneA : List A → A
  | [x] => x
  | xs => .tup xs
/-- What is handed back is told by x. -/
def Outs (P : Program) (rs : List ResultVar) (x : A) (S : State) : Prop :=
  ∀ (E : Env) (G : Nat → Prop) (gs : Gh) (tmps : Array Value) (w : World), Inv E G gs S tmps w → ∃ vs zs F k, resOK P tmps w rs vs ∧ RelL w G zs vs F ∧ F.Nodup ∧ (∀ b ∈ F, ¬ G b ∧ (E.Fin b ∨ E.w0.heap.size ≤ b)) ∧ fitA k (oneA zs) x
def outK (P : Program) (rs : List ResultVar) (x : A) : Exit → State → Prop
  | .normal, S | .ret, S => Outs P rs x S
  | _, _ => False
theorem oneA_rel {xs : List A} {vs : List Value} {F : List Nat} (h : RelL w G xs vs F) : Rel w G (oneA xs) (oneV vs) F := by
  cases h with
  | nil => exact Rel.tup .nil
  | cons h hl' =>
    cases hl' with
    | nil => simpa [oneA, oneV] using h
    | cons h2 hl2 => exact Rel.tup (.cons h (.cons h2 hl2))
/-- A walk of the body gives the contract. -/
theorem PCtr.of {g : Nat} {c : Code} {N : Nat} {rs : List ResultVar} {xs : List A} {x : A} (hf : FnAt P g c N rs) (hN : xs.length ≤ N) (h : VC P c (entryS N xs) (outK P rs x)) : PCtr P g xs x := by
  obtain ⟨hen, fn, h1, h2, h3, h4⟩ := hf
  refine ⟨hen, fun w G vs hG hl => ?_⟩
  have hlen := hl.length
  refine calls_of_wp h1 h2 ?_
  have hinv : Inv ⟨w, G, fun _ => False, fun _ => undef⟩ G (fun _ => (none, [])) (entryS N xs) (vs.toArray ++ Array.replicate (fn.ntmps - vs.toArray.size) undef) w := by
    refine ⟨fun _ _ _ => rfl, rfl, rfl, rfl, Nat.le_refl _, ?_, fun _ h => h, fun _ h => .inl h, hG, ?_, ?_, ?_, ?_, fun i => ?_⟩
    · simp [entryS, h3]; omega
    · intro r row hr; simp [entryS, rowAt] at hr
    · intro r row hr; simp [entryS, rowAt] at hr
    · intro r row hr; simp [entryS, rowAt] at hr
    · intro r r' row row' hr; simp [entryS, rowAt] at hr
    · show TRel w G [] _ (lk (entryT 0 xs) i) _ []
      rw [lk_entryT, if_pos (Nat.zero_le _), Nat.sub_zero]
      unfold vat
      by_cases hi : i < xs.length
      · obtain ⟨v, hv, hr⟩ := hl.get i xs[i] (List.getElem?_eq_getElem hi)
        rw [List.getD_eq_getElem?_getD, List.getElem?_eq_getElem hi]
        have : (vs.toArray ++ Array.replicate (fn.ntmps - vs.toArray.size) undef).getD i undef = v := by
          rw [Array.getD_eq_getD_getElem?, Array.getElem?_append_left (by simp; omega)]
          simp [hv]
        rw [if_pos (by simp; omega), this]; exact .of hr
      · rw [List.getD_eq_getElem?_getD, List.getElem?_eq_none (by omega)]
        exact .un
  refine wp_mono (h _ { tmps := vs.toArray ++ Array.replicate (fn.ntmps - vs.toArray.size) undef, defers := [] } w ⟨rfl, G, _, hinv⟩) ?_
  rintro e a' w' ⟨S', ⟨hd, G', gs', hi'⟩, hK⟩
  have fin : Outs P rs x S' → a'.defers = [] ∧ ∃ v, (results fn a'.tmps).run P w' = .ok v w' ∧ (∃ v_1 F, Ending.returned v = .returned v_1 ∧ Go.RowKit.Below w.heap.size w w' ∧
      F.Nodup ∧ (∀ b ∈ F, w.heap.size ≤ b) ∧ Rel w' (fun b => (G b ∨ (w.heap.size ≤ b ∧ b < w'.heap.size)) ∧ b ∉ F) x v_1 F) := by
    intro ho
    refine ⟨hd, ?_⟩
    obtain ⟨vs', zs, F, k, g1, g2, g3, g4, g5⟩ := ho _ _ _ _ _ hi'
    have hres := fitA_rel k _ _ _ _ g5 (oneA_rel g2)
    refine ⟨oneV vs', h4 _ _ _ g1, _, F, rfl, ⟨hi'.os, hi'.tape, hi'.output, hi'.size, fun b hb => hi'.keep b hb id⟩, g3, fun b hb => ?_, ?_⟩
    · rcases (g4 b hb).2 with h | h
      · exact h.elim
      · exact h
    · refine hres.move_ (fun b hb => ⟨⟨?_, fun hF => (g4 b hF).1 hb⟩, rfl⟩) (fun b hb => rfl)
      rcases hi'.gnew b hb with h | h
      · exact .inl h
      · exact .inr ⟨h, hi'.glt b hb⟩
  cases e with
  | normal => exact fin hK
  | ret => exact fin hK
  | _ => exact hK.elim
end
end Go.Fw

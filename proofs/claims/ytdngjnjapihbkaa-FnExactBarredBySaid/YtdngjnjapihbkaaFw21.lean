/- Regions whose order is drawn: what only reads. Helpers for walks. Plain theorems, no condition. -/
import Derived.Test.YtdngjnjapihbkaaFw20
set_option linter.unusedVariables false
set_option linter.unusedSimpArgs false
namespace Go.Fw

/-- Values that are told whole by what they are. -/
def detL : List A → Option (List Value)
  | [] => some []
  | .sc v :: xs => if cellV v then (detL xs).map fun vs => v :: vs else none
  | _ => none
def detA : A → Option Value
  | .sc v => if cellV v then some v else none
  | .agg xs => (detL xs).map fun vs => .agg vs.toArray
  | _ => none
theorem detL_rel {w : World} {G : Nat → Prop} : ∀ {xs : List A} {us vs : List Value} {F : List Nat}, detL xs = some us → RelL w G xs vs F → vs = us ∧ F = []
  | [], us, vs, F, h, hl => by cases hl; simp [detL] at h; exact ⟨h.symm ▸ rfl, rfl⟩
  | x :: xs, us, _, _, h, .cons hx hl => by
    cases x <;> try (simp [detL] at h; done)
    cases hx with
    | sc hc =>
      simp only [detL, hc, if_true, Option.map_eq_some_iff] at h
      obtain ⟨us', h1, rfl⟩ := h
      obtain ⟨rfl, rfl⟩ := detL_rel h1 hl
      exact ⟨rfl, rfl⟩
theorem detL_any {w : World} {G : Nat → Prop} : ∀ {xs : List A} {us : List Value}, detL xs = some us → RelL w G xs us []
  | [], us, h => by simp [detL] at h; subst h; exact .nil
  | x :: xs, us, h => by
    cases x <;> try (simp [detL] at h; done)
    rename_i v
    simp only [detL] at h
    split at h
    · rename_i hc
      simp only [Option.map_eq_some_iff] at h
      obtain ⟨us', h1, rfl⟩ := h
      exact .cons (F := []) (.sc hc) (detL_any h1)
    · simp at h
theorem detA_rel {w : World} {G : Nat → Prop} {x : A} {u v : Value} {F : List Nat} (h : detA x = some u) (hx : Rel w G x v F) : v = u := by
  cases x <;> try (simp [detA] at h; done)
  · cases hx with | sc hc => simp only [detA, hc, if_true, Option.some.injEq] at h; exact h
  · cases hx with
    | agg hl =>
      simp only [detA, Option.map_eq_some_iff] at h
      obtain ⟨us, h1, rfl⟩ := h
      rw [(detL_rel h1 hl).1]
theorem detA_any {w : World} {G : Nat → Prop} {x : A} {u : Value} (h : detA x = some u) : Rel w G x u [] := by
  cases x <;> try (simp [detA] at h; done)
  · simp only [detA] at h
    split at h
    · rename_i hc; simp only [Option.some.injEq] at h; subst h; exact .sc hc
    · simp at h
  · simp only [detA, Option.map_eq_some_iff] at h
    obtain ⟨us, h1, rfl⟩ := h
    exact .agg (detL_any h1)
structure QCallX (P : Program) (g : Nat) (args : List A) (S : State) (k : A → Prop) : Prop where
  h : Enter P g ∧ ∃ x u, detA x = some u ∧ k x ∧ ∀ (E : Env) (G : Nat → Prop) (gs : Gh) (tmps : Array Value) (w : World) (vs : List Value), Inv E G gs S tmps w → TRelL w G S.rows gs args vs [] →
    Calls P g vs.toArray w (fun e w' => e = .returned u ∧ Go.RowKit.Below w.heap.size w w')
def vQCall (Ω : Opq) (P : Program) (T : Nat → Option TI) (S : State) (f : Callee) (args : List Operand) (ts : List TypeId) (k : A → Prop) : Prop :=
  match f with
  | .value (.func g) => if g < 1000000 then QCallX P g (args.map (ev S)) S k else False
  | .value f => (match ev S f with
    | .clo g caps => QCallX P (Ω.cloN g) (Ω.cloA g (args.map (ev S)) caps) S k
    | _ => False)
  | .builtin .len => (match args, ts with
    | [x], [t] => vLen Ω T t (ev S x) k
    | _, _ => False)
  | _ => False
def vQOp (Ω : Opq) (P : Program) (T : Nat → Option TI) (o : Oper) (S : State) (k : A → Prop) : Prop :=
  match o.op with
  | .move x => k (ev S x)
  | .assign x => k (ev S x)
  | .pick c x y => vPick Ω (ev S c) (ev S x) (ev S y) k
  | .unOp op _ x => vUn Ω op (ev S x) k
  | .binOp op t x y _ => vBinA Ω P T op t (ev S x) (ev S y) k
  | .load t x => vLoad T t S (ev S x) k
  | .fieldAddr t x i => vFieldAddr T t i (ev S x) k
  | .field t x i => vField T t i (ev S x) k
  | .indexAddr t x y => vIndexAddr Ω T t S (ev S x) (ev S y) k
  | .index t x y => vIndex Ω T t (ev S x) (ev S y) k
  | .extract x i => vExtract (ev S x) i k
  | .nilCheck x => vNilCheck (ev S x) k
  | .build t parts => vBuild T t (parts.toList.map fun p => (p.1, ev S p.2)) k
  | .slice t x lo hi none => vSlice Ω T t S (ev S x) (lo.map (ev S)) (hi.map (ev S)) k
  | .convert src dst x => vConv Ω T src dst S (ev S x) k
  | .makeFunc f first caps => vMakeFn f (first.toList.map (ev S)) (caps.toList.map (ev S)) k
  | .call c => vQCall Ω P T S c.callee c.args.toList c.argTypes.toList k
  | _ => False
def vQs (Ω : Opq) (P : Program) (T : Nat → Option TI) (ops : List Oper) : List Oper → State → (State → Prop) → Prop
  | [], S, K => K S
  | o :: os, S, K =>
    match o.guard with
    | none => vQOp Ω P T o S fun z => vQs Ω P T ops os (S.put o.dst z) K
    | some (j, b) =>
      match guardAt ops j with
      | none => False
      | some i => if i < S.N then (match lk S.t i with
        | .sc (.bool p) => brB p
            (fun _ => match b with
              | true => vQOp Ω P T o (S.put (some i) (.sc (.bool true))) fun z => vQs Ω P T ops os ((S.put (some i) (.sc (.bool true))).put o.dst z) K
              | false => vQs Ω P T ops os ((S.put (some i) (.sc (.bool true))).put o.dst (.tup [])) K)
            (fun _ => match b with
              | true => vQs Ω P T ops os ((S.put (some i) (.sc (.bool false))).put o.dst (.tup [])) K
              | false => vQOp Ω P T o (S.put (some i) (.sc (.bool false))) fun z => vQs Ω P T ops os ((S.put (some i) (.sc (.bool false))).put o.dst z) K)
        | .tup [] => vQs Ω P T ops os (S.put o.dst (.tup [])) K
        | _ => False) else False

section
variable {P : Program} {T : Nat → Option TI} {S : State} {o : Oper} {K : State → Prop}
/-- The operation is quiet: a value that does not depend on how memory has grown. -/
def QOK (P : Program) (o : Oper) (S : State) (x : A) : Prop :=
  ∀ (E : Env) (G : Nat → Prop) (gs : Gh) (a : Act) (w : World), Inv E G gs S a.tmps w →
    ∃ v, (∀ w', Go.RowKit.Below w.heap.size w w' → o.quietAt P a (fun w'' => Go.RowKit.Below w.heap.size w w'') w' v) ∧ TRel w G S.rows gs x v []
theorem QOK.of {x : A} (h : VOK P o S x) : QOK P o S x := fun E G gs a w hi => by
  obtain ⟨v, h1, h2⟩ := h E G gs a w hi
  refine ⟨v, fun w' hw' => ?_, h2⟩
  unfold Oper.quietAt
  rw [h1 w' hw']
  exact ⟨rfl, rfl⟩
theorem of_VQ {k : A → Prop} (h : ∃ z, VOK P o S z ∧ k z) : ∃ z, QOK P o S z ∧ k z := let ⟨z, h1, h2⟩ := h; ⟨z, .of h1, h2⟩
theorem QCall_ok {k : A → Prop} {ci : Call} {f : Operand} {g : Nat} {caps : List A} (ho : o.op = .call ci) (hf : ci.callee = .value f) (he : ev S f = .clo g caps) (h : QCallX P (cloN g) (cloA g (ci.args.toList.map (ev S)) caps) S k) : ∃ z, QOK P o S z ∧ k z := by
  obtain ⟨hen, x, u, hu, hk, hrun⟩ := h.h
  refine ⟨x, fun E G gs a w hi => ⟨u, fun w' hw' => ?_, .of (detA_any hu)⟩, hk⟩
  have hi' : Inv E G gs S a.tmps w' := hi.below hw' (fun _ h => h) (fun _ h => .inl h) (fun b h => Nat.lt_of_lt_of_le (hi.glt b h) hw'.size)
  have hf' := ev_rel hi' f rfl
  rw [he] at hf'
  obtain ⟨cs, hv, hcs⟩ := hf'.clo_inv
  have hargs := cloA_rel (g := g) (evs_rel hi' ci.args.toList) hcs
  unfold Oper.quietAt
  rw [clo_call ho hf hv hen w']
  refine ⟨rfl, (hrun E G gs a.tmps w' _ hi' hargs).mono ?_⟩
  rintro e w'' ⟨he, hb⟩
  exact ⟨he, ⟨hb.os.trans hw'.os, hb.tape.trans hw'.tape, hb.output.trans hw'.output, Nat.le_trans hw'.size hb.size, fun b hbl => (hb.block b (Nat.lt_of_lt_of_le hbl hw'.size)).trans (hw'.block b hbl)⟩⟩
theorem vQCall_ok (hT : TabOK P T) {k : A → Prop} {ci : Call} (ho : o.op = .call ci) (h : vQCall std P T S ci.callee ci.args.toList ci.argTypes.toList k) : ∃ z, QOK P o S z ∧ k z := by
  unfold vQCall at h
  split at h <;> try exact h.elim
  · rename_i g hf
    split at h <;> try exact h.elim
    rename_i hg
    have he : ev S (.func g) = .clo g [] := if_pos hg
    refine QCall_ok ho hf he ?_
    unfold cloN cloA
    rw [if_pos hg, if_pos hg, List.append_nil]
    exact h
  · rename_i f hnf hf
    split at h <;> try exact h.elim
    rename_i g caps he
    exact QCall_ok ho hf he h
  · rename_i hf
    split at h <;> try exact h.elim
    rename_i x t h1 h2
    exact of_VQ (vLen_ok hT ho hf h1 h2 h)
theorem vQOp_ok (hT : TabOK P T) {k : A → Prop} (h : vQOp std P T o S k) : ∃ z, QOK P o S z ∧ k z := by
  unfold vQOp at h
  split at h
  · rename_i x ho; exact ⟨_, .of (VOK_move (.inl ho) rfl), h⟩
  · rename_i x ho; exact ⟨_, .of (VOK_move (.inr ho) rfl), h⟩
  · rename_i ho; exact of_VQ (vPick_ok ho h)
  · rename_i ho; exact of_VQ (vUn_ok ho h)
  · rename_i ho; exact of_VQ (vBinA_ok hT ho h)
  · rename_i ho; exact of_VQ (vLoad_ok hT ho h)
  · rename_i ho; exact of_VQ (vFieldAddr_ok hT ho h)
  · rename_i ho; exact of_VQ (vField_ok hT ho h)
  · rename_i ho; exact of_VQ (vIndexAddr_ok hT ho h)
  · rename_i ho; exact of_VQ (vIndex_ok hT ho h)
  · rename_i ho; exact of_VQ (vExtract_ok ho h)
  · rename_i ho; exact of_VQ (vNilCheck_ok ho h)
  · rename_i ho; exact of_VQ (vBuild_ok hT ho h)
  · rename_i ho; exact of_VQ (vSlice_ok hT ho h)
  · rename_i ho; exact of_VQ (vConv_ok hT ho h)
  · rename_i ho; exact of_VQ (vMakeFn_ok ho h)
  · rename_i ho; exact vQCall_ok hT ho h
  · exact h.elim
theorem vQs_ok (hT : TabOK P T) (ops : List Oper) {C : World → Prop} {Qa : Act → Prop} {E : Env} {w : World} (hC : ∀ w', C w' ↔ Go.RowKit.Below w.heap.size w w')
    (hQ : ∀ a S, SInv E S a w → K S → Qa a) : ∀ (os : List Oper) (S : State), vQs std P T ops os S K → ∀ a, SInv E S a w → wpQuiet P ops.toArray C Qa os a
  | [], S, h, a, hs => hQ a S hs h
  | o :: os, S, h, a, hs => by
    have hC' : C = fun w' => Go.RowKit.Below w.heap.size w w' := funext fun w' => propext (hC w')
    have wanted : ∀ S', SInv E S' a w → vQOp std P T o S' (fun z => vQs std P T ops os (S'.put o.dst z) K) → Region.wanted o (yielded ops.toArray a.tmps) = true → wpQuiet P ops.toArray C Qa (o :: os) a := fun S' hs h hw => by
      refine wpQuiet_step fun K' hK' => ?_
      rw [if_pos hw]
      obtain ⟨z, h1, h2⟩ := vQOp_ok hT h
      obtain ⟨hd, G, gs, hi⟩ := hs
      obtain ⟨v, h3, h4⟩ := h1 E G gs a w hi
      refine ⟨v, fun w' hw' => ?_, hK' _ (vQs_ok hT ops hC hQ os _ h2 _ ⟨by rw [put_defers]; exact hd, G, gs, hi.put h4 o.dst⟩)⟩
      rw [hC']
      exact h3 w' ((hC w').1 hw')
    have skipped : ∀ S', SInv E S' a w → vQs std P T ops os (S'.put o.dst (.tup [])) K → Region.wanted o (yielded ops.toArray a.tmps) = false → wpQuiet P ops.toArray C Qa (o :: os) a := fun S' hs h hw => by
      refine wpQuiet_step fun K' hK' => ?_
      rw [hw]
      obtain ⟨hd, G, gs, hi⟩ := hs
      exact hK' _ (vQs_ok hT ops hC hQ os _ h _ ⟨by rw [put_defers]; exact hd, G, gs, hi.put (tup_undef _ _ _) o.dst⟩)
    unfold vQs at h
    split at h
    · rename_i hg
      exact wanted S hs h (by simp [Region.wanted, hg])
    · rename_i j b hg
      split at h <;> try exact h.elim
      rename_i i hat
      split at h <;> try exact h.elim
      rename_i hN
      split at h <;> try exact h.elim
      case h_2 hp =>
        obtain ⟨hd, G, gs, hi⟩ := hs
        have ht := hi.tmp i
        rw [hp, hi.vat_tmp hN] at ht
        obtain ⟨cs, hv, hcs⟩ := tup_inv ht
        have hcs0 : cs = #[] := by
          have := hcs.length
          exact Array.eq_empty_of_size_eq_zero (by simpa using this)
        subst hcs0
        have hsz : i < a.tmps.size := by rw [hi.sz]; exact hN
        have h1 : ((ops.toArray[j]?).bind (·.dst)) = some i := by simpa [guardAt] using hat
        have hy : yielded ops.toArray a.tmps j = none := by
          unfold yielded
          rw [h1]
          rw [Array.getD_eq_getD_getElem?, Array.getElem?_eq_getElem hsz] at hv
          simp only [Option.getD_some] at hv
          simp [Array.getElem?_eq_getElem hsz, hv]
        exact skipped _ ⟨hd, G, gs, hi⟩ h (by simp [Region.wanted, hg, hy])
      rename_i p hp
      have hy : ∀ q, p = q → yielded ops.toArray a.tmps j = some q ∧ SInv E (S.put (some i) (.sc (.bool q))) a w := fun q hq => by
        subst hq
        obtain ⟨hd, G, gs, hi⟩ := hs
        have ht := hi.tmp i
        have ht' := ht
        rw [hp, hi.vat_tmp hN] at ht
        have hv := (sc_inv ht).1
        refine ⟨?_, hd, G, gs, hi.retell (by rw [hp] at ht'; exact ht') hN⟩
        have hsz : i < a.tmps.size := by rw [hi.sz]; exact hN
        have h1 : ((ops.toArray[j]?).bind (·.dst)) = some i := by simpa [guardAt] using hat
        unfold yielded
        rw [h1]
        rw [Array.getD_eq_getD_getElem?, Array.getElem?_eq_getElem hsz] at hv
        simp only [Option.getD_some] at hv
        simp [Array.getElem?_eq_getElem hsz, hv]
      obtain ⟨ht, hf⟩ := brB_ok h
      cases p with
      | true =>
        obtain ⟨hy1, hy2⟩ := hy true rfl
        have := ht rfl
        cases b with
        | true => exact wanted _ hy2 this (by simp [Region.wanted, hg, hy1])
        | false => exact skipped _ hy2 this (by simp [Region.wanted, hg, hy1])
      | false =>
        obtain ⟨hy1, hy2⟩ := hy false rfl
        have := hf rfl
        cases b with
        | true => exact skipped _ hy2 this (by simp [Region.wanted, hg, hy1])
        | false => exact wanted _ hy2 this (by simp [Region.wanted, hg, hy1])
/-- A region that draws its order. -/
theorem VC_drawn (hT : TabOK P T) {Ω : Opq} (hΩ : Ω = std) (hm : P.follows .mixedOrders = true) {id : Nat} {ops : Array Oper} {K : Exit → State → Prop} (hB : Region.lexB .any ops = true)
    (h : vQs Ω P T ops.toList ops.toList S (K .normal)) : VC P (.region id ops true) S K := by
  subst hΩ
  intro E a w hs
  refine wp_region_quiet (C := fun w' => Go.RowKit.Below w.heap.size w w') hm hB ⟨rfl, rfl, rfl, Nat.le_refl _, fun _ _ => rfl⟩ ?_
  refine vQs_ok (K := K .normal) (E := E) (w := w) hT ops.toList (fun _ => Iff.rfl) (fun a' S' hs' hK w' hw' => ?_) ops.toList S h a hs
  obtain ⟨hd, G, gs, hi⟩ := hs'
  exact ⟨S', ⟨hd, G, gs, hi.below hw' (fun _ h => h) (fun _ h => .inl h) (fun b h => Nat.lt_of_lt_of_le (hi.glt b h) hw'.size)⟩, hK⟩
/-- A call that hands back plain numbers and texts. -/
theorem QCall_pure {g k : Nat} {args ys0 ys : List A} {x : A} {u : Value} {K : A → Prop} (hc : PCtr P g ys x) (h1 : mapO (roO S k) args = some ys0) (h2 : fitA.fitL k ys0 ys) (hu : detA x = some u) (hK : K x) : QCallX P g args S K := by
  refine ⟨hc.enter, x, u, hu, hK, fun E G gs tmps w vs hi hl => ?_⟩
  have hys := fitL_rel (fun x y v F => fitA_rel k x y v F) ys0 ys vs [] h2 (mapO_rel (fun x v F y h hy => roO_rel hi k x v F y h hy) hl h1)
  refine Calls.mono (hc.run w (Old w) vs (fun b h => h) hys) ?_
  rintro e w' ⟨v, F, rfl, hb, hnd, hnew, hr⟩
  rw [detA_rel hu hr]
  exact ⟨rfl, hb⟩

/-- The last row is not asked for any more. -/
theorem Sbs.last {rows : List (Option Row)} {row : Row} (h : S.rows = rows ++ [some row]) : Sbs S ⟨killT rows.length S.t, S.N, killRows rows.length rows⟩ := by
  have hr : rowAt S.rows rows.length = some row := by rw [h, rowAt_push, if_pos rfl]
  refine Sbs.trans (Sbs.drop hr) ?_
  have e : S.turn rows.length none = ⟨killT rows.length S.t, S.N, killRows rows.length rows ++ [none]⟩ := by
    unfold State.turn
    rw [h]
    simp [killRows]
  rw [e]
  exact Sbs.trim
theorem Sbs.mkL {S' : State} {rows : List (Option Row)} {row : Row} (h : S.rows = rows ++ [some row]) (hN : S.N = S'.N) (hr : killRows rows.length rows = S'.rows) (ht : subL (killT rows.length S.t) S'.t) : Sbs S S' :=
  (Sbs.last h).trans (Sbs.mk hN hr ht)
theorem Sbs.lastN {rows : List (Option Row)} (h : S.rows = rows ++ [none]) : Sbs S ⟨S.t, S.N, rows⟩ := by
  have e : S = ⟨S.t, S.N, rows ++ [none]⟩ := by rw [← h]
  rw [e]; exact Sbs.trim
/-! Reckoning in 64 bits. -/
theorem wrap64 {x : Int} (h1 : -9223372036854775808 ≤ x) (h2 : x ≤ 9223372036854775807) : IntKind.i64.wrap x = x := by
  show (if (true && decide (x % 18446744073709551616 ≥ 9223372036854775808)) = true then x % 18446744073709551616 - 18446744073709551616 else x % 18446744073709551616) = x
  simp only [Bool.true_and, decide_eq_true_eq]
  split <;> omega
/-- A loop, by the reckoning: states by an index, what is known of the index, a measure. -/
theorem loopX (hT : TabOK P T) {Ω : Opq} (hΩ : Ω = std) {ι : Type} {c : Code} {K : Exit → State → Prop} (I : ι → State) (p : ι → Prop) (μ : ι → Nat) (i : ι) (hp : p i) (hs : Sbs S (I i))
    (h : ∀ i, p i → vC Ω P T c (I i) (thenK (fun S' => ∃ j, p j ∧ μ j < μ i ∧ Sbs S' (I j)) K)) : VCX P (.loop c) S K := by
  refine ⟨VC.sub (VC_loop (ι := {i // p i}) (fun i => I i.1) (fun i => μ i.1) (fun i => ?_) ⟨i, hp⟩) hs⟩
  refine VC.mono (vstart hT hΩ (h i.1 i.2)) fun e S' h => ?_
  cases e <;> first | exact h | skip
  obtain ⟨j, h1, h2, h3⟩ := h
  exact ⟨⟨j, h1⟩, h2, h3⟩
@[simp] theorem arS_add (k : IntKind) (x y : Int) : arS .add k x y = k.wrap (x + y) := rfl
@[simp] theorem arS_sub (k : IntKind) (x y : Int) : arS .sub k x y = k.wrap (x - y) := rfl
@[simp] theorem arS_mul (k : IntKind) (x y : Int) : arS .mul k x y = k.wrap (x * y) := rfl
@[simp] theorem arS_quo (k : IntKind) (x y : Int) : arS .quo k x y = k.wrap (x.tdiv y) := rfl
@[simp] theorem arS_rem (k : IntKind) (x y : Int) : arS .rem k x y = x.tmod y := rfl
@[simp] theorem cmpIS_eql (x y : Int) : cmpIS .eql x y = (x == y) := rfl
@[simp] theorem cmpIS_neq (x y : Int) : cmpIS .neq x y = (x != y) := rfl
@[simp] theorem cmpIS_lss (x y : Int) : cmpIS .lss x y = decide (x < y) := rfl
@[simp] theorem cmpIS_leq (x y : Int) : cmpIS .leq x y = decide (x ≤ y) := rfl
@[simp] theorem cmpIS_gtr (x y : Int) : cmpIS .gtr x y = decide (x > y) := rfl
@[simp] theorem cmpIS_geq (x y : Int) : cmpIS .geq x y = decide (x ≥ y) := rfl
@[simp] theorem cmpSS_eql (x y : List UInt8) : cmpSS .eql x y = (x == y) := rfl
@[simp] theorem cmpSS_neq (x y : List UInt8) : cmpSS .neq x y = (x != y) := rfl
@[simp] theorem cmpSS_lss (x y : List UInt8) : cmpSS .lss x y = Op.bytesLess x y := rfl
@[simp] theorem cmpSS_gtr (x y : List UInt8) : cmpSS .gtr x y = !(Op.bytesLess x y || x == y) := rfl
@[simp] theorem cmpSS_leq (x y : List UInt8) : cmpSS .leq x y = (Op.bytesLess x y || x == y) := rfl
@[simp] theorem cmpSS_geq (x y : List UInt8) : cmpSS .geq x y = !(Op.bytesLess x y) := rfl
theorem lt_t {x y : Int} (h : std.cmp .lss x y = true) : x < y := by
  have h : cmpIS .lss x y = true := h
  simp at h; omega
theorem lt_f {x y : Int} (h : std.cmp .lss x y = false) : y ≤ x := by
  have h : cmpIS .lss x y = false := h
  simp at h; omega
theorem le_t {x y : Int} (h : std.cmp .leq x y = true) : x ≤ y := by
  have h : cmpIS .leq x y = true := h
  simp at h; omega
theorem le_f {x y : Int} (h : std.cmp .leq x y = false) : y < x := by
  have h : cmpIS .leq x y = false := h
  simp at h; omega
theorem gt_t {x y : Int} (h : std.cmp .gtr x y = true) : y < x := by
  have h : cmpIS .gtr x y = true := h
  simp at h; omega
theorem gt_f {x y : Int} (h : std.cmp .gtr x y = false) : x ≤ y := by
  have h : cmpIS .gtr x y = false := h
  simp at h; omega
theorem ge_t {x y : Int} (h : std.cmp .geq x y = true) : y ≤ x := by
  have h : cmpIS .geq x y = true := h
  simp at h; omega
theorem ge_f {x y : Int} (h : std.cmp .geq x y = false) : x < y := by
  have h : cmpIS .geq x y = false := h
  simp at h; omega
theorem eq_t {x y : Int} (h : std.cmp .eql x y = true) : x = y := by
  have h : cmpIS .eql x y = true := h
  simp at h; omega
theorem eq_f {x y : Int} (h : std.cmp .eql x y = false) : x ≠ y := by
  have h : cmpIS .eql x y = false := h
  simp at h; omega
theorem ne_t {x y : Int} (h : std.cmp .neq x y = true) : x ≠ y := by
  have h : cmpIS .neq x y = true := h
  simp at h; omega
theorem ne_f {x y : Int} (h : std.cmp .neq x y = false) : x = y := by
  have h : cmpIS .neq x y = false := h
  simp at h; omega
theorem seq_t {x y : List UInt8} (h : std.cmpS .eql x y = true) : x = y := by
  have h : cmpSS .eql x y = true := h
  simpa using h
theorem seq_f {x y : List UInt8} (h : std.cmpS .eql x y = false) : x ≠ y := by
  have h : cmpSS .eql x y = false := h
  simpa using h
theorem sne_t {x y : List UInt8} (h : std.cmpS .neq x y = true) : x ≠ y := by
  have h : cmpSS .neq x y = true := h
  simpa using h
theorem sne_f {x y : List UInt8} (h : std.cmpS .neq x y = false) : x = y := by
  have h : cmpSS .neq x y = false := h
  simpa using h
end
end Go.Fw

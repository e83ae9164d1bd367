/- Regions that draw their order, of which a first part only reads but for one slice that is made, and the rest stands in one order. Plain theorems, no condition. -/
import Derived.Test.YtdngjnjapihbkaaFwE
set_option linter.unusedVariables false
set_option linter.unusedSimpArgs false
namespace Go.Fw
section
variable {P : Program}
theorem under_same {t : TypeId} {d : TypeDesc} {w w1 : World} (h : (underlying t).run P w = .ok d w1) : w1 = w := by
  unfold underlying at h
  simp only [Sem.run_bind, run_program, Result.andThen_ok] at h
  split at h
  · simp at h; exact h.2.symm
  · simp at h
theorem info_same {t : TypeId} {d : TypeInfo} {w w1 : World} (h : (typeInfo t).run P w = .ok d w1) : w1 = w := by
  unfold typeInfo at h
  simp only [Sem.run_bind, run_program, Result.andThen_ok] at h
  split at h
  · simp at h; exact h.2.symm
  · simp at h
theorem size_same {t : TypeId} {d : Nat} {w w1 : World} (h : (sizeOf t).run P w = .ok d w1) : w1 = w := by
  unfold sizeOf at h
  simp only [Sem.run_bind] at h
  generalize hr : (typeInfo t).run P w = r at h
  cases r with
  | halt => simp [Result.andThen] at h
  | ok d w2 =>
    have := info_same hr
    subst this
    simp at h
    exact h.2.symm
theorem zero_same {t : TypeId} {d : Value} {w w1 : World} (h : (zeroValue t).run P w = .ok d w1) : w1 = w := by
  unfold zeroValue at h
  simp only [Sem.run_bind] at h
  generalize hr : (typeInfo t).run P w = r at h
  cases r with
  | halt => simp [Result.andThen] at h
  | ok d w2 =>
    have := info_same hr
    subst this
    simp only [Result.andThen_ok] at h
    split at h
    · simp at h; exact h.2.symm
    · simp at h
theorem newRow_below {t : TypeId} {cs : Array Value} {d : Addr} {w w1 : World} (h : (newRow t cs).run P w = .ok d w1) : Go.RowKit.Below w.heap.size w w1 := by
  have : (newRow t cs).run P w = .ok ⟨w.heap.size, 0, none⟩ (w.alloc (.cells cs t)) := by simp [newRow]
  rw [this] at h
  simp only [Result.ok.injEq] at h
  rw [← h.2]
  refine ⟨rfl, rfl, rfl, ?_, fun k hk => heap_alloc_lt w _ hk⟩
  show w.heap.size ≤ (w.heap.push _).size
  rw [Array.size_push]
  omega
def BelowS (P : Program) {α : Type} (m : Sem α) : Prop := ∀ w v w', m.run P w = .ok v w' → Go.RowKit.Below w.heap.size w w'
theorem BelowS.pure {α : Type} (x : α) : BelowS P (Pure.pure x : Sem α) := fun w v w' h => by
  simp only [Sem.run_pure, Result.ok.injEq] at h
  rw [← h.2]; exact .refl _ _
theorem BelowS.bind {α β : Type} {m : Sem α} {f : α → Sem β} (h : BelowS P m) (hf : ∀ x, BelowS P (f x)) : BelowS P (m >>= f) := fun w v w' hr => by
  rw [Sem.run_bind] at hr
  generalize hm : m.run P w = r at hr
  cases r with
  | halt => simp [Result.andThen] at hr
  | ok x w1 =>
    simp only [Result.andThen_ok] at hr
    have h1 := h _ _ _ hm
    have h2 := hf x _ _ _ hr
    exact ⟨h2.os.trans h1.os, h2.tape.trans h1.tape, h2.output.trans h1.output, Nat.le_trans h1.size h2.size, fun b hb => (h2.block b (Nat.lt_of_lt_of_le hb h1.size)).trans (h1.block b hb)⟩
theorem BelowS.same {α : Type} {m : Sem α} (h : ∀ w v w', m.run P w = .ok v w' → w' = w) : BelowS P m := fun w v w' hr => by
  rw [h _ _ _ hr]; exact .refl _ _
theorem BelowS.halts {α : Type} {m : Sem α} (h : ∀ w v w', m.run P w ≠ .ok v w') : BelowS P m := fun w v w' hr => absurd hr (h _ _ _)
theorem BelowS.bind_halts {α β : Type} {m : Sem α} {f : α → Sem β} (h : ∀ w v w', m.run P w ≠ .ok v w') : BelowS P (m >>= f) := fun w v w' hr => by
  rw [Sem.run_bind] at hr
  generalize hm : m.run P w = r at hr
  cases r with
  | halt => simp [Result.andThen] at hr
  | ok x w1 => exact absurd hm (h _ _ _)
theorem buildSlice_below {t : TypeId} {len : Nat} {parts : Array (Nat × Value)} : BelowS P (Instr.buildSlice t len parts) := by
  unfold Instr.buildSlice
  refine BelowS.bind (.same fun w v w' h => under_same h) fun d => ?_
  split
  · refine BelowS.bind (.same fun w v w' h => size_same h) fun sz => ?_
    dsimp only
    split
    · exact BelowS.bind_halts fun w v w' h => by simp at h
    · split
      · refine BelowS.bind (BelowS.pure _) fun z => ?_
        skip
        split
        · exact BelowS.bind (fun w v w' h => newRow_below h) fun _ => BelowS.pure _
        · exact BelowS.halts fun w v w' h => by simp at h
      · refine BelowS.bind (.same fun w v w' h => zero_same h) fun z => ?_
        refine BelowS.bind (BelowS.pure _) fun z => ?_
        skip
        split
        · exact BelowS.bind (fun w v w' h => newRow_below h) fun _ => BelowS.pure _
        · exact BelowS.halts fun w v w' h => by simp at h
  · exact BelowS.halts fun w v w' h => by simp at h
end
/-! Any order, told by what each operation yields. -/
section
variable {P : Program} {ops : Array Oper} {md : Region.Mode} {Y : Nat → Value → Sem Next → Prop}
def gOp (ops : Array Oper) (Y : Nat → Value → Sem Next → Prop) (i : Nat) (K : Act → Prop) (a : Act) : Prop :=
  match ops[i]? with
  | none => K a
  | some o => if Region.wanted o (yielded ops a.tmps) then ∃ v, Y i v (execOp a.eval o) ∧ K (a.put o.dst v) else K (a.put o.dst undef)
def YG (ops : Array Oper) (Y : Nat → Value → Sem Next → Prop) (i : Nat) (o : Oper) (v : Value) (a : Act) : Prop :=
  (Region.wanted o (yielded ops a.tmps) = true ∧ Y i v (execOp a.eval o)) ∨ (Region.wanted o (yielded ops a.tmps) = false ∧ v = undef)
theorem gOp_mono {i : Nat} {a : Act} {K K' : Act → Prop} (h : ∀ a, K a → K' a) (hh : gOp ops Y i K a) : gOp ops Y i K' a := by
  unfold gOp at *
  split
  · exact h _ (by simpa [*] using hh)
  · rename_i o ho
    simp only [ho] at hh
    split
    · rename_i hw; simp only [hw, if_true] at hh; obtain ⟨v, h1, h2⟩ := hh; exact ⟨v, h1, h _ h2⟩
    · rename_i hw; simp only [hw] at hh; exact h _ hh
theorem YG.gOp {i : Nat} {o : Oper} {v : Value} {a : Act} (hi : ops[i]? = some o) (hy : YG ops Y i o v a) {K : Act → Prop} (h : K (a.put o.dst v)) : Fw.gOp ops Y i K a := by
  unfold Fw.gOp
  simp only [hi]
  rcases hy with ⟨hw, hv⟩ | ⟨hw, rfl⟩
  · simp only [hw, if_true]; exact ⟨v, hv, h⟩
  · simp only [hw, Bool.false_eq_true, if_false]; exact h
theorem YG.of_same {i : Nat} {o : Oper} {v : Value} {a a' : Act} (hy : YG ops Y i o v a) (he : execOp a'.eval o = execOp a.eval o)
    (hw : Region.wanted o (yielded ops a'.tmps) = Region.wanted o (yielded ops a.tmps)) : YG ops Y i o v a' := by
  unfold YG at *
  rw [he, hw]
  exact hy
theorem YG_of_gOp {i : Nat} {o : Oper} {a : Act} {K : Act → Prop} (hi : ops[i]? = some o) (h : gOp ops Y i K a) : ∃ v, YG ops Y i o v a ∧ K (a.put o.dst v) := by
  unfold gOp at h
  simp only [hi] at h
  by_cases hw : Region.wanted o (yielded ops a.tmps) = true
  · simp only [hw, if_true] at h
    obtain ⟨v, h1, h2⟩ := h
    exact ⟨v, .inl ⟨hw, h1⟩, h2⟩
  · simp only [hw] at h
    exact ⟨undef, .inr ⟨by simpa using hw, rfl⟩, h⟩
theorem gOp_put {i j : Nat} {oi oj : Oper} {v : Value} (hj : ops[j]? = some oj) (hap : oi.apart ops oj = true) (hsi : ∀ cs b, oi.op ≠ .select cs b) (hsj : ∀ cs b, oj.op ≠ .select cs b) {K : Act → Prop} {a : Act}
    (hy : YG ops Y i oi v a) (h : gOp ops Y j K (a.put oi.dst v)) : gOp ops Y j (fun a' => YG ops Y i oi v a' ∧ K (a'.put oi.dst v)) a := by
  obtain ⟨h1, h2, h3⟩ := Oper.apart_spec hap
  have keep : ∀ (a : Act), YG ops Y i oi v a → ∀ u, YG ops Y i oi v (a.put oj.dst u) := fun a hy u => hy.of_same (execOp_put oi hsi a oj.dst u h3) (wanted_put oi a oj.dst u h3)
  unfold gOp at *
  simp only [hj] at *
  rw [wanted_put oj a oi.dst v h1] at h
  split
  · rename_i hw
    simp only [hw, if_true] at h
    obtain ⟨u, hu, hn⟩ := h
    rw [execOp_put oj hsj a oi.dst v h1] at hu
    exact ⟨u, hu, keep a hy u, by rw [← Act.put_comm a v u h2]; exact hn⟩
  · rename_i hw
    simp only [hw] at h
    exact ⟨keep a hy _, by rw [← Act.put_comm a v undef h2]; exact h⟩
def anyG (md : Region.Mode) (ops : Array Oper) (Y : Nat → Value → Sem Next → Prop) (n : Nat) (L : Array Bool → Act → Prop) : Nat → Array Bool → Act → Prop
  | 0, listed, a => L listed a
  | f + 1, listed, a => Region.ready md ops listed ≠ [] ∧ ∀ i ∈ Region.ready md ops listed, i < n ∧ gOp ops Y i (anyG md ops Y n L f (listed.setIfInBounds i true)) a
theorem anyG_first {n i : Nat} {oi : Oper} {v : Value} {L : Array Bool → Act → Prop} (hi : ops[i]? = some oi) (hsel : ∀ (j : Nat) (o : Oper) cs b, ops[j]? = some o → o.op ≠ .select cs b) (hin : i < n)
    (hs : Region.sinkB md ops n = true) (hc : Region.chainB md ops n = true) (hn : n < ops.size) (hdone : ∀ listed a, L listed a → ∀ j ∈ Region.ready md ops listed, n ≤ j) :
    ∀ (f : Nat) (listed : Array Bool) (a : Act), HeadInv md ops n listed →
      (∀ j oj, ops[j]? = some oj → j ≠ i → listed.getD j true = false → (∀ e ∈ oj.after, Region.binds md e = true → e.on ≠ i) → oi.apart ops oj = true) →
      i ∈ Region.ready md ops listed → YG ops Y i oi v a →
      anyG md ops Y n L f (listed.setIfInBounds i true) (a.put oi.dst v) → anyG md ops Y n L (f + 1) listed a := by
  intro f
  induction f with
  | zero =>
    intro listed a inv _ hr hy H
    have hun := (mem_ready.1 hr).1
    refine ⟨fun h => (by rw [h] at hr; cases hr), fun j hj => ?_⟩
    have hjn : j < n := (Nat.lt_or_ge j n).elim id fun h => absurd hj (tail_waits hs hc hn inv _ i rfl hin hun j h)
    refine ⟨hjn, ?_⟩
    by_cases hji : j = i
    · subst hji; exact hy.gOp hi H
    · have := hdone _ _ H j (ready_mono hj hji)
      omega
  | succ f ih =>
    intro listed a inv hfree hr hy H
    have hun := (mem_ready.1 hr).1
    refine ⟨fun h => (by rw [h] at hr; cases hr), fun j hj => ?_⟩
    have hjn : j < n := (Nat.lt_or_ge j n).elim id fun h => absurd hj (tail_waits hs hc hn inv _ i rfl hin hun j h)
    refine ⟨hjn, ?_⟩
    by_cases hji : j = i
    · subst hji; exact hy.gOp hi H
    · have h1 := (H.2 j (ready_mono hj hji)).2
      obtain ⟨hjun, oj, hoj, hall⟩ := mem_ready.1 hj
      have hnot : ∀ e ∈ oj.after, Region.binds md e = true → e.on ≠ i := fun e he hb heq => by
        have h1 := hall e he hb
        rw [heq, getD_both hun] at h1
        cases h1
      have h2 := gOp_put hoj (hfree j oj hoj hji hjun hnot) (fun cs b => hsel i oi cs b hi) (fun cs b => hsel j oj cs b hoj) hy h1
      have hfree' : ∀ k ok, ops[k]? = some ok → k ≠ i → (listed.setIfInBounds j true).getD k true = false →
          (∀ e ∈ ok.after, Region.binds md e = true → e.on ≠ i) → oi.apart ops ok = true := fun k ok hk hki hun hno => by
        refine hfree k ok hk hki ?_ hno
        by_cases hjk : j = k
        · subst hjk; exact hjun
        · rw [getD_set_ne true hjk] at hun; exact hun
      refine gOp_mono (fun a' h3 => ih (listed.setIfInBounds j true) a' (inv.set hj hjn) hfree' (ready_mono hr (Ne.symm hji)) h3.1 ?_) h2
      rw [Array.setIfInBounds_comm _ _ hji]
      exact h3.2
def YA (P : Program) (w1 ws : World) (s : Nat) (i : Nat) (v : Value) (m : Sem Next) : Prop :=
  if i = s then m.run P w1 = .ok (.value v) ws else ∀ w', Go.RowKit.Below w1.heap.size w1 w' → m.run P w' = .ok (.value v) w'
def wpV (P : Program) (ops : Array Oper) (w1 : World) (Q : Act → Prop) : List Oper → Act → Prop
  | [], a => Q a
  | o :: rest, a => if Region.wanted o (yielded ops a.tmps) then ∃ v, (∀ w', Go.RowKit.Below w1.heap.size w1 w' → (execOp a.eval o).run P w' = .ok (.value v) w') ∧ wpV P ops w1 Q rest (a.put o.dst v)
      else wpV P ops w1 Q rest (a.put o.dst undef)
theorem anyG_lexA {s g : Nat} {os : Oper} {w1 : World} {Lq : World → Act → Prop} (hos : ops[s]? = some os) (hsg : os.guard = none) (hsel : Region.noSelect ops = true) (hs : Region.sinkB md ops (s + 1) = true) (hc : Region.chainB md ops (s + 1) = true) (hn : s + 1 < ops.size) :
    ∀ (l : List Oper) (k : Nat) (listed : Array Bool) (a : Act), (∀ j, j < l.length → l[j]? = ops[k + j]?) → k + l.length = s → HeadInv md ops (s + 1) listed → Region.lexHead md ops g (l.length + 1) k listed = true →
      wpV P ops w1 (fun a' => ∃ v ws, (execOp a'.eval os).run P w1 = .ok (.value v) ws ∧ Go.RowKit.Below w1.heap.size w1 ws ∧ Lq ws (a'.put os.dst v)) l a →
      ∃ ws, Go.RowKit.Below w1.heap.size w1 ws ∧ anyG md ops (YA P w1 ws s) (s + 1) (fun listed' a' => (Region.seqB md ops g (s + 1) listed' = true ∧ Lq ws a') ∧ listed'.getD s false = true) (l.length + 1) listed a
  | [], k, listed, a, _, hk, inv, hB, h => by
    have : k = s := by simpa using hk
    subst this
    obtain ⟨v, ws, h1, h2, h3⟩ := h
    simp only [List.length_nil, Nat.zero_add, Region.lexHead, Bool.and_eq_true] at hB
    obtain ⟨⟨hr, hf⟩, hB'⟩ := hB
    refine ⟨ws, h2, ?_⟩
    exact anyG_first (Y := YA P w1 ws k) hos (Region.noSelect_spec hsel) (Nat.lt_succ_self k) hs hc hn (fun listed' a' hL => seqB_ready hL.1.1) 0 listed a inv (Region.free_spec hos hf) (by simpa using hr)
      (.inl ⟨by simp [Region.wanted, hsg], by unfold YA; rw [if_pos rfl]; exact h1⟩) ⟨⟨hB', h3⟩, by have := inv.size; simp; omega⟩
  | o :: l, k, listed, a, hl, hk, inv, hB, h => by
    have h0 : ops[k]? = some o := by simpa using (hl 0 (by simp)).symm
    rw [List.length_cons, Region.lexHead] at hB
    simp only [Bool.and_eq_true] at hB
    obtain ⟨⟨hr, hf⟩, hB'⟩ := hB
    have hkn : k < s := by simp only [List.length_cons] at hk; omega
    have hr' : k ∈ Region.ready md ops listed := by simpa using hr
    have key : ∀ v, (∀ ws, YG ops (YA P w1 ws s) k o v a) → wpV P ops w1 (fun a' => ∃ v ws, (execOp a'.eval os).run P w1 = .ok (.value v) ws ∧ Go.RowKit.Below w1.heap.size w1 ws ∧ Lq ws (a'.put os.dst v)) l (a.put o.dst v) →
        ∃ ws, Go.RowKit.Below w1.heap.size w1 ws ∧ anyG md ops (YA P w1 ws s) (s + 1) (fun listed' a' => (Region.seqB md ops g (s + 1) listed' = true ∧ Lq ws a') ∧ listed'.getD s false = true) ((o :: l).length + 1) listed a := fun v hy h => by
      obtain ⟨ws, hb, hG⟩ := anyG_lexA (Lq := Lq) hos hsg hsel hs hc hn l (k + 1) (listed.setIfInBounds k true) (a.put o.dst v) (fun j hj => by have := hl (j + 1) (by simp; omega); simpa [Nat.add_assoc, Nat.add_comm 1 j] using this)
        (by simp only [List.length_cons] at hk; omega) (inv.set hr' (by omega)) hB' h
      exact ⟨ws, hb, anyG_first h0 (Region.noSelect_spec hsel) (by omega) hs hc hn (fun listed' a' hL => seqB_ready hL.1.1) (l.length + 1) listed a inv (Region.free_spec h0 hf) hr' (hy ws) hG⟩
    unfold wpV at h
    split at h
    · rename_i hw
      obtain ⟨v, h1, h2⟩ := h
      exact key v (fun ws => .inl ⟨hw, by unfold YA; rw [if_neg (by omega)]; exact h1⟩) h2
    · rename_i hw
      exact key undef (fun ws => .inr ⟨by simpa using hw, rfl⟩) h
theorem any_of_G {n g s : Nat} {os : Oper} {w1 ws : World} {L : Array Bool → Act → Prop} {Q' : Exit → Act → World → Prop} (hos : ops[s]? = some os) (hsg : os.guard = none) (hws : Go.RowKit.Below w1.heap.size w1 ws)
    (hL : ∀ listed a, L listed a → wpAny P md ops Q' g listed a (if listed.getD s false then ws else w1)) :
    ∀ (f : Nat) (listed : Array Bool) (a : Act), anyG md ops (YA P w1 ws s) n L f listed a → wpAny P md ops Q' (f + g) listed a (if listed.getD s false then ws else w1)
  | 0, listed, a, h => by rw [Nat.zero_add]; exact hL _ _ h
  | f + 1, listed, a, h => by
    rw [show f + 1 + g = (f + g) + 1 by omega]
    refine ⟨fun h0 => absurd h0 h.1, fun i hi => ?_⟩
    have hg := (h.2 i hi).2
    have hun := (mem_ready.1 hi).1
    have hlt : i < listed.size := by
      rcases Nat.lt_or_ge i listed.size with h | h
      · exact h
      · simp [Array.getElem?_eq_none h] at hun
    have ih := any_of_G (n := n) hos hsg hws hL f (listed.setIfInBounds i true)
    by_cases his : i = s
    · subst his
      have e1 : listed.getD i false = false := getD_both hun
      have e2 : (listed.setIfInBounds i true).getD i false = true := by simp [hlt]
      rw [e1]
      rw [e2] at ih
      unfold gOp at hg
      unfold wpOp
      simp only [hos] at hg ⊢
      have hw : Region.wanted os (yielded ops a.tmps) = true := by simp [Region.wanted, hsg]
      rw [if_pos hw] at hg ⊢
      obtain ⟨v, h1, h2⟩ := hg
      unfold YA at h1
      rw [if_pos rfl] at h1
      left
      unfold Oper.wp
      simp only [Bool.false_eq_true, if_false]
      rw [h1]
      exact ih _ h2
    · have e1 : (listed.setIfInBounds i true).getD s false = listed.getD s false := getD_set_ne false his
      rw [e1] at ih
      have hb : Go.RowKit.Below w1.heap.size w1 (if listed.getD s false then ws else w1) := by
        split
        · exact hws
        · exact .refl _ _
      generalize (if listed.getD s false = true then ws else w1) = ww at ih hb ⊢
      unfold gOp at hg
      unfold wpOp
      split
      · rename_i ho; simp only [ho] at hg; exact ih _ hg
      · rename_i o ho
        simp only [ho] at hg
        split
        · rename_i hw
          simp only [hw, if_true] at hg
          obtain ⟨v, h1, h2⟩ := hg
          unfold YA at h1
          rw [if_neg his] at h1
          left
          unfold Oper.wp
          rw [h1 _ hb]
          exact ih _ h2
        · rename_i hw
          simp only [hw] at hg
          exact ih _ hg
theorem wp_region_atail {id s : Nat} {Q : Exit → Act → World → Prop} {a : Act} {w : World} {l : List Oper} {os : Oper} (hos : l[s]? = some os) (hsg : os.guard = none) (hm : P.follows .mixedOrders = true) (hB : Region.lexTailB .any l.toArray (s + 1) = true)
    (h : wpV P l.toArray { w with drawn := w.drawn + 1 } (fun a' => ∃ v ws, (execOp a'.eval os).run P { w with drawn := w.drawn + 1 } = .ok (.value v) ws ∧ Go.RowKit.Below w.heap.size { w with drawn := w.drawn + 1 } ws ∧
      wpList P l.toArray Q (l.drop (s + 1)) (a'.put os.dst v) ws) (l.take s) a) : (Code.region id l.toArray true).wp P Q a w := by
  simp only [Region.lexTailB, Bool.and_eq_true, decide_eq_true_eq] at hB
  obtain ⟨⟨⟨⟨hsel, hn⟩, hs⟩, hc⟩, hlex⟩ := hB
  have hn' : s + 1 < l.length := by simpa using hn
  have htl : (l.take s).length = s := by simp; omega
  have hdl : (l.drop (s + 1)).length = l.toArray.size - (s + 1) := by simp
  have inv0 : HeadInv .any l.toArray (s + 1) (Array.replicate l.toArray.size false) :=
    ⟨by simp, fun j oj _ hl => (by rw [getD_replicate_false] at hl; cases hl), fun t _ ht => getD_in (by simpa using ht) (getD_replicate_false _ _)⟩
  have hos' : l.toArray[s]? = some os := by simpa using hos
  obtain ⟨ws, hb, H⟩ := anyG_lexA (md := .any) (g := l.toArray.size - (s + 1)) (w1 := { w with drawn := w.drawn + 1 }) (Lq := fun ws a' => wpList P l.toArray Q (l.drop (s + 1)) a' ws) hos' hsg hsel hs hc hn (l.take s) 0 _ a (fun j hj => by
    have hj' : j < s := by rw [htl] at hj; exact hj
    simp [hj']) (by simpa using htl) inv0 (by rw [htl]; exact hlex) h
  refine wp_region_any hm ?_
  have := any_of_G (Q' := Q) (g := l.toArray.size - (s + 1)) hos' hsg hb (fun listed a' hL => by
    rw [hL.2]
    have := wpAny_of_seq (md := .any) (Q' := Q) (l.drop (s + 1)) (s + 1) listed a' ws (fun j => by simp [List.getElem?_drop]) (by rw [hdl]; exact hL.1.1) hL.1.2
    rwa [hdl] at this) _ _ _ H
  rw [htl, getD_replicate_false] at this
  simp only [Bool.false_eq_true, if_false] at this
  rw [show s + 1 + (l.toArray.size - (s + 1)) = l.toArray.size by omega] at this
  exact this
/-! The reckoning. -/
variable {T : Nat → Option TI} {S : State} {o : Oper}
def vVOp (Ω : Opq) (P : Program) (T : Nat → Option TI) (o : Oper) (S : State) (k : A → Prop) : Prop :=
  match o.op with
  | .move x => k (ev S x)
  | .assign x => k (ev S x)
  | .pick c x y => vPick Ω (ev S c) (ev S x) (ev S y) k
  | .unOp op _ x => vUn Ω op (ev S x) k
  | .binOp op t x y _ => vBinA Ω P T op t (ev S x) (ev S y) k
  | .load t x => vLoad T t S (ev S x) k
  | .fieldAddr t x i => vFieldAddr T t i (ev S x) k
  | .field t x i => vField T t i (ev S x) k
  | .indexAddr t x y => vIndexAddr Ω T t S (ev S x) (ev S y) k
  | .index t x y => vIndex Ω T t (ev S x) (ev S y) k
  | .extract x i => vExtract (ev S x) i k
  | .nilCheck x => vNilCheck (ev S x) k
  | .slice t x lo hi none => vSlice Ω T t S (ev S x) (lo.map (ev S)) (hi.map (ev S)) k
  | _ => False
theorem vVOp_ok (hT : TabOK P T) {k : A → Prop} (h : vVOp std P T o S k) : ∃ z, VOK P o S z ∧ k z := by
  unfold vVOp at h
  split at h
  · rename_i x ho; exact ⟨_, VOK_move (.inl ho) rfl, h⟩
  · rename_i x ho; exact ⟨_, VOK_move (.inr ho) rfl, h⟩
  · rename_i ho; exact vPick_ok ho h
  · rename_i ho; exact vUn_ok ho h
  · rename_i ho; exact vBinA_ok hT ho h
  · rename_i ho; exact vLoad_ok hT ho h
  · rename_i ho; exact vFieldAddr_ok hT ho h
  · rename_i ho; exact vField_ok hT ho h
  · rename_i ho; exact vIndexAddr_ok hT ho h
  · rename_i ho; exact vIndex_ok hT ho h
  · rename_i ho; exact vExtract_ok ho h
  · rename_i ho; exact vNilCheck_ok ho h
  · rename_i ho; exact vSlice_ok hT ho h
  · exact h.elim
def vVs (Ω : Opq) (P : Program) (T : Nat → Option TI) : List Oper → State → (State → Prop) → Prop
  | [], S, K => K S
  | o :: os, S, K => match o.guard with
    | none => vVOp Ω P T o S fun z => vVs Ω P T os (S.put o.dst z) K
    | some _ => False
theorem vVs_ok (hT : TabOK P T) {K : State → Prop} {Q : Act → Prop} {E : Env} {w w1 : World} (hw1 : Go.RowKit.Below w.heap.size w w1) (hQ : ∀ a S, SInv E S a w → K S → Q a) :
    ∀ (os : List Oper) (S : State), vVs std P T os S K → ∀ a, SInv E S a w → wpV P ops w1 Q os a
  | [], S, h, a, hs => hQ a S hs h
  | o :: os, S, h, a, hs => by
    unfold vVs at h
    split at h
    · rename_i hg
      obtain ⟨z, h1, h2⟩ := vVOp_ok hT h
      obtain ⟨hd, G, gs, hi⟩ := hs
      obtain ⟨v, h3, h4⟩ := h1 E G gs a w hi
      unfold wpV
      rw [if_pos (by simp [Region.wanted, hg])]
      refine ⟨v, fun w' hw' => h3 w' ?_, vVs_ok hT hw1 hQ os _ h2 _ ⟨by rw [put_defers]; exact hd, G, gs, hi.put h4 o.dst⟩⟩
      exact ⟨hw'.os.trans hw1.os, hw'.tape.trans hw1.tape, hw'.output.trans hw1.output, Nat.le_trans hw1.size hw'.size, fun b hb => (hw'.block b (Nat.lt_of_lt_of_le hb hw1.size)).trans (hw1.block b hb)⟩
    · exact h.elim
/-- A region that draws its order: s operations that only read, a slice is made, then the rest in one order. -/
theorem VC_atail (hT : TabOK P T) {Ω : Opq} (hΩ : Ω = std) (hm : P.follows .mixedOrders = true) (s : Nat) {id : Nat} {ops : Array Oper} {K : Exit → State → Prop} {os : Oper} {t : TypeId} {len : Nat} {parts : Array (Nat × Operand)}
    (hos : ops.toList[s]? = some os) (hg : os.guard = none) (hop : os.op = .buildSlice t len parts) (hB : Region.lexTailB .any ops (s + 1) = true)
    (h : vVs Ω P T (ops.toList.take s) S fun S' => vOp Ω P T none os S' fun S'' => vOps Ω P T ops.toList (madeBy os) (ops.toList.drop (s + 1)) S'' (K .normal)) : VC P (.region id ops true) S K := by
  subst hΩ
  intro E a w hs
  have hops : ops = ops.toList.toArray := by simp
  rw [hops] at hB ⊢
  have hw1 : Go.RowKit.Below w.heap.size w { w with drawn := w.drawn + 1 } := ⟨rfl, rfl, rfl, Nat.le_refl _, fun _ _ => rfl⟩
  refine wp_region_atail hos hg hm hB (vVs_ok (ops := ops.toList.toArray) hT hw1 (fun a' S' hs' hK => ?_) (ops.toList.take s) S h a hs)
  obtain ⟨hd, G, gs, hi⟩ := hs'
  have hs1 : SInv E S' a' { w with drawn := w.drawn + 1 } := ⟨hd, G, gs, hi.below hw1 (fun _ h => h) (fun _ h => .inl h) (fun b h => Nat.lt_of_lt_of_le (hi.glt b h) hw1.size)⟩
  have hwp := vOp_ok hT hK E a' { w with drawn := w.drawn + 1 } (fun a2 w2 => wpList P ops.toList.toArray (fun e a' w' => ∃ S', SInv E S' a' w' ∧ K e S') (ops.toList.drop (s + 1)) a2 w2) (fun _ _ _ => False) hs1
    (fun S2 a2 w2 hK2 hs2 => vOps_ok hT ops.toList (ops.toList.drop (s + 1)) _ S2 K hK2 E a2 w2 hs2)
  unfold Oper.wp at hwp
  have hex : execOp a'.eval os = (do pure (.value (← Instr.buildSlice t len (parts.map fun p => (p.1, a'.eval p.2)))) : Sem Next) := by simp only [execOp, hop]
  rw [hex] at hwp
  simp only [Sem.run_bind] at hwp
  generalize hr : (Instr.buildSlice t len (parts.map fun p => (p.1, a'.eval p.2))).run P { w with drawn := w.drawn + 1 } = r at hwp
  cases r with
  | halt x w' =>
    simp only [Result.andThen] at hwp
    unfold Oper.upon at hwp
    split at hwp <;> first | exact hwp.elim | (rename_i heq; cases heq)
  | ok v ws =>
    simp only [Result.andThen_ok, Sem.run_pure, Oper.upon_value] at hwp
    refine ⟨v, ws, ?_, ?_, hwp⟩
    · rw [hex, Sem.run_bind, hr]; rfl
    · have := buildSlice_below _ _ _ hr
      exact ⟨this.os, this.tape, this.output, this.size, this.block⟩
end
end Go.Fw

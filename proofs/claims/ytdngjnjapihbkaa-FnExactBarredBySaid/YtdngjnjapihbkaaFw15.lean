/- Calls taken by contract; contracts proved from a walk of the body. Plain theorems, no condition. -/
import Derived.Test.YtdngjnjapihbkaaFw14
set_option linter.unusedVariables false
set_option linter.unusedSimpArgs false
namespace Go.Fw

section
variable {P : Program} {E : Env} {G : Nat → Prop} {gs : Gh} {S : State} {a : Act} {w : World} {tmps : Array Value}

structure Rooted (E : Env) (G : Nat → Prop) (gs gs' : Gh) (S S' : State) (tmps : Array Value) (w : World) (R : List Nat) : Prop where
  inv : Inv E G gs' S' tmps w
  res : Res E G gs' S'.rows R
  keep : ∀ x v, TRel w G S.rows gs x v [] → TRel w G S'.rows gs' x v []

theorem adopt_res (hi : Inv E G gs S tmps w) {R1 R2 : List Nat} (hR : Res E G gs S.rows (R1 ++ R2)) (hlt : ∀ b ∈ R1 ++ R2, b < w.heap.size) {ob : Option Nat} {F : List Nat} (hF : R1 = ob.toList ++ F) {row : Row}
    (hrow : ∀ rows' gs', RowRel w G rows' gs' row ob F) : Rooted E G gs (gs.add S.rows.length ob F) S (S.addRow row) tmps w R2 := by
  subst hF
  have hnd := hR.nod
  rw [List.nodup_append] at hnd
  obtain ⟨n1, n2, n3⟩ := hnd
  have hinv := hi.adopt (w' := w) (G' := G) (R := F) (ob := ob) (row := row) rfl rfl rfl (Nat.le_refl _) (fun _ _ => rfl) (fun _ h => h) (fun _ h => .inl h) hi.glt n1
    (fun b hb => hR.own b (by rw [List.mem_append]; exact .inl hb)) (fun r row' hr b hb hb2 => hR.dis r row' hr b hb (by rw [List.mem_append]; exact .inl hb2)) (fun rows' gs' _ => hrow rows' gs')
  have hself : (gs.add S.rows.length ob F) S.rows.length = (ob, F) := by simp [Gh.add]
  have hne : ∀ r row', rowAt S.rows r = some row' → r ≠ S.rows.length := fun r row' hr => by have := rowAt_lt hr; omega
  refine ⟨hinv, ⟨n2, fun b hb => hR.own b (by simp [hb]), fun r row' hr b hb hb2 => ?_⟩, fun x v hx => ?_⟩
  · have hr' : rowAt (S.rows ++ [some row]) r = some row' := hr
    rw [rowAt_push] at hr'
    split at hr'
    · rename_i h; subst h
      have : b ∈ ob.toList ++ F := by simpa [Gh.all, hself] using hb
      exact n3 b this b hb2 rfl
    · rename_i h
      have : gs.all r = (gs.add S.rows.length ob F).all r := by simp [Gh.all, Gh.add, h]
      rw [← this] at hb
      exact hR.dis r row' hr' b hb (by simp [hb2])
  · refine hx.step (fun b hb => ⟨hb, rfl⟩) (fun r => RowLe.refl_of fun row' hr => ⟨?_, ?_, fun _ _ => rfl⟩) (by simp)
    · show rowAt (S.rows ++ [some row]) r = _
      rw [rowAt_push, if_neg (hne r row' hr)]; exact hr
    · simp [Gh.add, hne r row' hr]

theorem rootL_nil (k : Nat) (S : State) : rootA.rootL k S [] = ([], S) := by rw [rootA.rootL]
theorem rootL_cons (k : Nat) (S : State) (x : A) (xs : List A) : rootA.rootL k S (x :: xs) = ((rootA k S x).1 :: (rootA.rootL k (rootA k S x).2 xs).1, (rootA.rootL k (rootA k S x).2 xs).2) := by rw [rootA.rootL]
theorem rootL_ok {k : Nat} (ih : ∀ (S : State) (gs : Gh) (x : A) (v : Value) (R1 R2 : List Nat), Inv E G gs S tmps w → Res E G gs S.rows (R1 ++ R2) → (∀ b ∈ R1 ++ R2, b < w.heap.size) → Rel w G x v R1 → noOwn (rootA k S x).1 = true →
      ∃ gs', Rooted E G gs gs' S (rootA k S x).2 tmps w R2 ∧ TRel w G (rootA k S x).2.rows gs' (rootA k S x).1 v []) :
    ∀ (xs : List A) (S : State) (gs : Gh) (vs : List Value) (R1 R2 : List Nat), Inv E G gs S tmps w → Res E G gs S.rows (R1 ++ R2) → (∀ b ∈ R1 ++ R2, b < w.heap.size) → RelL w G xs vs R1 → (rootA.rootL k S xs).1.all noOwn = true →
      ∃ gs', Rooted E G gs gs' S (rootA.rootL k S xs).2 tmps w R2 ∧ TRelL w G (rootA.rootL k S xs).2.rows gs' (rootA.rootL k S xs).1 vs []
  | [], S, gs, _, _, R2, hi, hR, hlt, h, _ => by
    cases h
    rw [rootL_nil]
    exact ⟨gs, ⟨hi, by simpa using hR, fun x v h => h⟩, .nil⟩
  | x :: xs, S, gs, _, _, R2, hi, hR, hlt, h, hno => by
    cases h with
    | cons h hl =>
      rename_i v F vs Fs
      rw [List.append_assoc] at hR hlt
      rw [rootL_cons] at hno ⊢
      simp only [List.all_cons, Bool.and_eq_true] at hno
      obtain ⟨gs1, h1, h2⟩ := ih S gs x v F (Fs ++ R2) hi hR hlt h hno.1
      obtain ⟨gs2, h3, h4⟩ := rootL_ok ih xs _ gs1 vs Fs R2 h1.inv h1.res (fun b hb => hlt b (by rw [List.mem_append]; exact .inr hb)) hl hno.2
      exact ⟨gs2, ⟨h3.inv, h3.res, fun x v hx => h3.keep x v (h1.keep x v hx)⟩, .cons (F := []) (Fs := []) (h3.keep _ _ h2) h4⟩
theorem rootA_ok : ∀ (k : Nat) (S : State) (gs : Gh) (x : A) (v : Value) (R1 R2 : List Nat), Inv E G gs S tmps w → Res E G gs S.rows (R1 ++ R2) → (∀ b ∈ R1 ++ R2, b < w.heap.size) → Rel w G x v R1 → noOwn (rootA k S x).1 = true →
      ∃ gs', Rooted E G gs gs' S (rootA k S x).2 tmps w R2 ∧ TRel w G (rootA k S x).2.rows gs' (rootA k S x).1 v [] := by
  intro k
  induction k with
  | zero =>
    intro S gs x v R1 R2 hi hR hlt h hno
    simp only [rootA] at hno ⊢
    have h0 := h.noOwn hno
    subst h0
    exact ⟨gs, ⟨hi, by simpa using hR, fun x v h => h⟩, .of h⟩
  | succ k ih =>
    intro S gs x v R1 R2 hi hR hlt h hno
    have plain : noOwn x = true → ∃ gs', Rooted E G gs gs' S S tmps w R2 ∧ TRel w G S.rows gs' x v [] := fun hno => by
      have h0 := h.noOwn hno
      subst h0
      exact ⟨gs, ⟨hi, by simpa using hR, fun x v h => h⟩, .of h⟩
    have hrow : ∀ (row : Row) (ob : Option Nat) (F : List Nat), rowAt (S.addRow row).rows S.rows.length = some row := fun row _ _ => by
      show rowAt (S.rows ++ [some row]) S.rows.length = _
      rw [rowAt_push, if_pos rfl]
    have hself : ∀ ob F, (gs.add S.rows.length ob F) S.rows.length = (ob, F) := fun ob F => by simp [Gh.add]
    cases x with
    | sl o n xs =>
      cases o with
      | false => exact plain hno
      | true =>
        simp only [rootA]
        cases h with
        | nils =>
          have := adopt_res (ob := none) (F := []) hi hR hlt rfl (row := ⟨n, [], false⟩) (fun _ _ => ⟨rfl, rfl⟩)
          exact ⟨_, this, .vwn (hrow _ none []) (by rw [hself]) rfl⟩
        | ow hh hw hlen hc hl hcap hm hs hv0 =>
          rename_i b len cap cur e cs F
          subst hlen
          subst hc
          have hlen2 := hl.length
          have := adopt_res (ob := some b) (F := F) hi hR hlt rfl (row := ⟨n, xs, false⟩) (fun rows' gs' => ⟨cur, e, cap, hh, hs, hcap, hm, hw, hv0, hl⟩)
          have hv := TRel.vw (w := w) (G := G) (rows := (S.addRow ⟨n, xs, false⟩).rows) (gs := gs.add S.rows.length (some b) F) (off := 0) (len := xs.length) (k := 0) (hrow _ none []) (by rw [hself]) (by simp) hh hs hm hcap (.inl (by simp))
          exact ⟨_, this, by simpa using hv⟩
    | bx xs =>
      simp only [rootA]
      cases h with
      | bx hh hl hv0 =>
        rename_i b cur e F
        have hlen := hl.length
        have hsz : cur.size = xs.length := by simpa using hlen
        have htk : cur.toList.take ([A.agg xs].length * xs.length) = cur.toList := by rw [List.length_singleton, Nat.one_mul, ← hlen, List.take_length]
        have hfl : flat [A.agg xs] = xs := by simp [flat, A.cells]
        have := adopt_res (ob := some b) (F := F) hi hR hlt rfl (row := ⟨xs.length, [.agg xs], true⟩) (fun rows' gs' => ⟨cur, e, 1, hh, by simpa using hsz, by simp, by simp [maxLen], by simp [A.width, A.cells], by
          show ∀ v ∈ cur.toList.take ([A.agg xs].length * xs.length), _
          rw [htk]; exact hv0, by
          show TRelL w G rows' gs' (flat [A.agg xs]) (cur.toList.take ([A.agg xs].length * xs.length)) F
          rw [htk, hfl]; exact .of hl⟩)
        exact ⟨_, this, .pt (hrow _ none []) (by rw [hself]) (by simp)⟩
    | agg xs =>
      simp only [rootA] at hno ⊢
      rw [noOwn_agg] at hno
      cases h with
      | agg hl =>
        obtain ⟨gs', h1, h2⟩ := rootL_ok ih xs S gs _ _ R2 hi hR hlt hl hno
        exact ⟨gs', h1, .agg h2⟩
    | tup xs =>
      simp only [rootA] at hno ⊢
      rw [noOwn_tup] at hno
      cases h with
      | tup hl =>
        obtain ⟨gs', h1, h2⟩ := rootL_ok ih xs S gs _ _ R2 hi hR hlt hl hno
        exact ⟨gs', h1, .tup h2⟩
    | _ => exact plain hno
end
end Go.Fw

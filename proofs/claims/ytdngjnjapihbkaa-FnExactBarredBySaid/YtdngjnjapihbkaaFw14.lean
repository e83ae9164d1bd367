/- Calls: arguments told as plain data, results told as rows, contracts. Plain theorems, no condition. -/
import Derived.Test.YtdngjnjapihbkaaFw13
set_option linter.unusedVariables false
set_option linter.unusedSimpArgs false
namespace Go.Fw

def mapO (f : A → Option A) : List A → Option (List A)
  | [] => some []
  | x :: xs => match f x, mapO f xs with
    | some y, some ys => some (y :: ys)
    | _, _ => none
/-- What a callee that only reads is told of an argument. -/
def roO (S : State) : Nat → A → Option A
  | 0, _ => none
  | k + 1, x => match x with
    | .vw r off len => match rowAt S.rows r with
      | some row => if row.lk then none else some (.sl false row.n (((row.xs.drop off).take len).map frz))
      | none => none
    | .pt r j o => match rowAt S.rows r with
      | some row => if j < row.xs.length ∧ o ≤ row.n then
          if row.lk then (mapO (roO S k) (((row.xs.getD j .un).cells).drop o)).map A.rp else some (.rp ((((row.xs.getD j .un).cells).drop o).map frz))
        else none
      | none => none
    | .agg xs => (mapO (roO S k) xs).map A.agg
    | .tup xs => (mapO (roO S k) xs).map A.tup
    | .clo g xs => (mapO (roO S k) xs).map (A.clo g)
    | .un => none
    | .sl true n xs => some (.sl false n (xs.map frz))
    | .bx xs => some (.rp (xs.map frz))
    | x => some x

section
variable {P : Program} {E : Env} {G : Nat → Prop} {gs : Gh} {S : State} {a : Act} {w : World} {tmps : Array Value}

def Old (w : World) : Nat → Prop := fun b => b < w.heap.size

theorem mapO_rel {f : A → Option A} {G' : Nat → Prop} {rows : List (Option Row)} (hf : ∀ x v F y, TRel w G rows gs x v F → f x = some y → Rel w G' y v []) : ∀ {xs : List A} {vs : List Value} {F : List Nat} {ys : List A},
    TRelL w G rows gs xs vs F → mapO f xs = some ys → RelL w G' ys vs []
  | [], _, _, ys, h, hm => by
    cases h
    simp only [mapO, Option.some.injEq] at hm
    subst hm; exact .nil
  | x :: xs, _, _, ys, h, hm => by
    cases h with
    | cons h hl =>
      simp only [mapO] at hm
      cases h1 : f x with
      | none => simp [h1] at hm
      | some y =>
        cases h2 : mapO f xs with
        | none => simp [h1, h2] at hm
        | some zs =>
          simp only [h1, h2, Option.some.injEq] at hm
          subst hm
          exact .cons (F := []) (Fs := []) (hf _ _ _ _ h h1) (mapO_rel hf hl h2)
theorem RelL.frz {xs : List A} {vs : List Value} {F : List Nat} (h : RelL w G xs vs F) {G' : Nat → Prop} (hG : ∀ b, G b → G' b) (hF : ∀ b ∈ F, G' b) : RelL w G' (xs.map Fw.frz) vs [] := by
  induction xs generalizing vs F with
  | nil => cases h; exact .nil
  | cons x xs ih =>
    cases h with
    | cons h hl => exact .cons (F := []) (Fs := []) (h.frz hG fun b hb => hF b (by simp [hb])) (ih hl fun b hb => hF b (by simp [hb]))
theorem roO_rel (hi : Inv E G gs S tmps w) : ∀ (k : Nat) (x : A) (v : Value) (F : List Nat) (y : A), TRel w G S.rows gs x v F → roO S k x = some y → Rel w (Old w) y v [] := by
  intro k
  induction k with
  | zero => intro x v F y _ hy; simp [roO] at hy
  | succ k ih =>
    intro x v F y h hy
    have hGO : ∀ b, G b → Old w b := fun b hb => hi.glt b hb
    have plain : ∀ {x : A} {v : Value}, TRel w G S.rows gs x v F → isData x = true → Rel w (Old w) (Fw.frz x) v [] := fun h hd => (h.data hd).frz hGO (h.data hd).lt
    cases x with
    | un => simp [roO] at hy
    | sc u =>
      simp only [roO, Option.some.injEq] at hy; subst hy
      have := plain h (isData_sc u); rwa [frz_sc] at this
    | nil =>
      simp only [roO, Option.some.injEq] at hy; subst hy
      have := plain h isData_nil; rwa [frz_nil] at this
    | sl o n xs =>
      cases o with
      | true =>
        simp only [roO, Option.some.injEq] at hy; subst hy
        have := plain h (isData_sl true n xs); rwa [frz_sl] at this
      | false =>
        simp only [roO, Option.some.injEq] at hy; subst hy
        exact (h.data (isData_sl false n xs)).noOwn (by simp [noOwn_sl]) ▸ (h.data (isData_sl false n xs)).move_ (fun b hb => ⟨hGO b hb, rfl⟩) (fun b hb => rfl)
    | rp xs =>
      simp only [roO, Option.some.injEq] at hy; subst hy
      exact (h.data (isData_rp xs)).noOwn (by simp [noOwn_rp]) ▸ (h.data (isData_rp xs)).move_ (fun b hb => ⟨hGO b hb, rfl⟩) (fun b hb => rfl)
    | bx xs =>
      simp only [roO, Option.some.injEq] at hy; subst hy
      have := plain h (isData_bx xs); rwa [frz_bx] at this
    | agg xs =>
      simp only [roO, Option.map_eq_some_iff] at hy
      obtain ⟨ys, h1, rfl⟩ := hy
      obtain ⟨cs, rfl, hl⟩ := agg_inv h
      have := Rel.agg (mapO_rel (G' := Old w) (fun x v F y hx hy => ih x v F y hx hy) hl h1)
      simpa using this
    | tup xs =>
      simp only [roO, Option.map_eq_some_iff] at hy
      obtain ⟨ys, h1, rfl⟩ := hy
      obtain ⟨cs, rfl, hl⟩ := tup_inv h
      have := Rel.tup (mapO_rel (G' := Old w) (fun x v F y hx hy => ih x v F y hx hy) hl h1)
      simpa using this
    | clo g xs =>
      simp only [roO, Option.map_eq_some_iff] at hy
      obtain ⟨ys, h1, rfl⟩ := hy
      cases h with
      | of h => cases h with | clo hl => exact .clo (mapO_rel (gs := gs) (rows := S.rows) (G' := Old w) (fun x v F y hx hy => ih x v F y hx hy) (.of hl) h1)
      | clo hl => exact .clo (mapO_rel (G' := Old w) (fun x v F y hx hy => ih x v F y hx hy) hl h1)
    | vw r off len =>
      simp only [roO] at hy
      cases hr : rowAt S.rows r with
      | none => simp [hr] at hy
      | some row =>
        simp only [hr] at hy
        split at hy
        · simp at hy
        · rename_i hlk
          simp only [Option.some.injEq] at hy
          subst hy
          rcases vw_inv h with ⟨row', kk, cap, cur, e, b, hr', hob, g1, g2, g3, g4, g5, g6, rfl⟩ | ⟨row', hr', hob, hxs, rfl, rfl, rfl⟩
          · rw [hr] at hr'
            obtain rfl := Option.some.inj hr'
            have hrr := hi.row r row hr
            rw [hob] at hrr
            obtain ⟨cur', e', cap', h1, h2, h3, h4, h5, h6, h7⟩ := hrr.ex
            rw [g2] at h1
            simp only [Option.some.injEq, Obj.cells.injEq] at h1
            obtain ⟨rfl, rfl, _⟩ := h1
            unfold CellsRel at h7
            rw [if_neg hlk] at h7
            obtain ⟨F1, F2, e1, _, k2⟩ := h7.take_ (off * row.n)
            obtain ⟨F3, F4, e2, k3, _⟩ := k2.take_ (len * row.n)
            rw [flat_drop off h5, flat_take len (fun y hy => h5 y (List.mem_of_mem_drop hy))] at k3
            have hle : (off + len) * row.n ≤ row.xs.length * row.n := Nat.mul_le_mul_right _ g1
            rw [Nat.add_mul] at hle
            rw [List.drop_take, List.take_take, Nat.min_eq_left (by omega)] at k3
            have k4 := RelL.frz k3 (G' := Old w) hGO k3.lt
            rw [← flat_frz] at k4
            have hlen : len = (((row.xs.drop off).take len).map Fw.frz).length := by simp; omega
            have hw : ∀ y ∈ ((row.xs.drop off).take len).map Fw.frz, y.width = row.n := fun y hy => by
              obtain ⟨z, hz, rfl⟩ := List.mem_map.1 hy
              rw [width_frz]; exact h5 z (List.mem_of_mem_drop (List.mem_of_mem_take hz))
            have hold : Old w b := (Array.getElem?_eq_some_iff.1 g2).1
            refine .ro g2 hold hw hlen rfl ?_ (by omega) (by omega)
            rcases g6 with hk | hk
            · rw [hk]; exact k4
            · have h0 : len = 0 := by omega
              subst h0
              simpa using k4
          · rw [hr] at hr'
            obtain rfl := Option.some.inj hr'
            simpa using Rel.nils
    | pt r j o =>
      simp only [roO] at hy
      cases hr : rowAt S.rows r with
      | none => simp [hr] at hy
      | some row =>
        simp only [hr] at hy
        by_cases hjo : j < row.xs.length ∧ o ≤ row.n
        case neg => rw [if_neg hjo] at hy; simp at hy
        rw [if_pos hjo] at hy
        obtain ⟨row', b, hr', hb, rfl⟩ := pt_inv h
        rw [hr] at hr'
        obtain rfl := Option.some.inj hr'
        obtain ⟨b', hb', hrc⟩ := row_real hi hr (by omega)
        rw [hb] at hb'
        obtain rfl := Option.some.inj hb'
        obtain ⟨cur, e, cap, h1, h2, h3, h4, h5, h6, h7⟩ := hrc.ex
        have hz : row.xs[j]? = some (row.xs.getD j .un) := by simp [List.getD_eq_getElem?_getD, List.getElem?_eq_getElem hjo.1]
        generalize row.xs.getD j .un = x at hy hz
        have hw := h5 x (List.mem_of_getElem? hz)
        unfold A.width at hw
        have hseg := flat_seg h5 hz o (row.n - o) (by omega)
        have hxl : ((x.cells.drop o).take (row.n - o)) = x.cells.drop o := by rw [List.take_of_length_le (by simp; omega)]
        have hle : (j + 1) * row.n ≤ row.xs.length * row.n := Nat.mul_le_mul_right _ hjo.1
        rw [Nat.add_mul] at hle
        have hcur : ((cur.toList.take (row.xs.length * row.n)).drop (j * row.n + o)).take (row.n - o) = (cur.toList.drop (j * row.n + o)).take (row.n - o) := by
          rw [List.drop_take, List.take_take, Nat.min_eq_left (by omega)]
        have hold : Old w b := (Array.getElem?_eq_some_iff.1 h1).1
        have hlenx : (x.cells.drop o).length = row.n - o := by simp; omega
        obtain ⟨F1, F2, e1, _, k2⟩ := h7.t.take_ (j * row.n + o)
        obtain ⟨F3, F4, e2, k3, _⟩ := k2.take_ (row.n - o)
        rw [hseg, hxl, hcur] at k3
        by_cases hlk : row.lk = true
        · rw [if_pos hlk] at hy
          simp only [Option.map_eq_some_iff] at hy
          obtain ⟨ys, hm, rfl⟩ := hy
          have k4 := mapO_rel (G' := Old w) (fun x v F y hx hy => ih x v F y hx hy) k3 hm
          have hyl : ys.length = row.n - o := by rw [← k4.length, k3.length, hlenx]
          exact .rp h1 hold rfl (by rw [hyl]; exact k4)
        · rw [if_neg hlk] at hy
          simp only [Option.some.injEq] at hy
          subst hy
          unfold CellsRel at h7
          rw [if_neg hlk] at h7
          obtain ⟨F1', F2', e1', _, k2'⟩ := h7.take_ (j * row.n + o)
          obtain ⟨F3', F4', e2', k3', _⟩ := k2'.take_ (row.n - o)
          rw [hseg, hxl, hcur] at k3'
          have k4 := RelL.frz k3' (G' := Old w) hGO k3'.lt
          exact .rp h1 hold rfl (by rw [List.length_map, hlenx]; exact k4)

/-- One way of telling serves for another. -/
def fitA : Nat → A → A → Prop
  | 0, x, y => x = y
  | k + 1, x, y => match x, y with
    | .nil, .sl _ _ ys => ys = []
    | .agg xs, .agg ys => fitL k xs ys
    | .tup xs, .tup ys => fitL k xs ys
    | x, y => x = y
where fitL (k : Nat) : List A → List A → Prop
    | [], [] => True
    | x :: xs, y :: ys => fitA k x y ∧ fitL k xs ys
    | _, _ => False
theorem fitL_rel {k : Nat} (ih : ∀ x y v F, fitA k x y → Rel w G x v F → Rel w G y v F) : ∀ (xs ys : List A) (vs : List Value) (F : List Nat), fitA.fitL k xs ys → RelL w G xs vs F → RelL w G ys vs F
  | [], [], _, _, _, h => h
  | x :: xs, y :: ys, _, _, hf, .cons h hl => by
    rw [fitA.fitL] at hf
    exact .cons (ih x y _ _ hf.1 h) (fitL_rel ih xs ys _ _ hf.2 hl)
  | [], _ :: _, _, _, hf, _ => by rw [fitA.fitL] at hf <;> simp_all
  | _ :: _, [], _, _, hf, _ => by rw [fitA.fitL] at hf <;> simp_all
theorem fitA_rel : ∀ (k : Nat) (x y : A) (v : Value) (F : List Nat), fitA k x y → Rel w G x v F → Rel w G y v F := by
  intro k
  induction k with
  | zero => intro x y v F hf h; simp only [fitA] at hf; subst hf; exact h
  | succ k ih =>
    intro x y v F hf h
    unfold fitA at hf
    split at hf
    · subst hf; cases h; exact .nils
    · cases h with | agg hl => exact .agg (fitL_rel ih _ _ _ _ hf hl)
    · cases h with | tup hl => exact .tup (fitL_rel ih _ _ _ _ hf hl)
    · subst hf; exact h

/-- The machine enters the function when it is called. -/
def Enter (P : Program) (g : Nat) : Prop := ∀ (args : Array Value) (w : World), (callFunc g args).run P w = .ok (.enter g args) w

/-- A contract of a function that turns nothing that was there: told these arguments it hands back x, new where it is told as held alone. -/
structure PCtr (P : Program) (g : Nat) (args : List A) (x : A) : Prop where
  enter : Enter P g
  run : ∀ (w : World) (G : Nat → Prop) (vs : List Value), (∀ b, G b → b < w.heap.size) → RelL w G args vs [] → Calls P g vs.toArray w (fun e w' => ∃ v F, e = .returned v ∧ Go.RowKit.Below w.heap.size w w' ∧
    F.Nodup ∧ (∀ b ∈ F, w.heap.size ≤ b) ∧ Rel w' (fun b => (G b ∨ (w.heap.size ≤ b ∧ b < w'.heap.size)) ∧ b ∉ F) x v F)

/-- What a call comes to, from state S. -/
def CallOK (P : Program) (g : Nat) (args : List A) (S : State) (K : A → State → Prop) : Prop :=
  Enter P g ∧ ∀ (E : Env) (G : Nat → Prop) (gs : Gh) (tmps : Array Value) (w : World) (vs : List Value), Inv E G gs S tmps w → TRelL w G S.rows gs args vs [] →
    Calls P g vs.toArray w (fun e w' => ∃ v x S' G' gs', e = .returned v ∧ K x S' ∧ Inv E G' gs' S' tmps w' ∧ TRel w' G' S'.rows gs' x v [])

theorem Inv.below (hi : Inv E G gs S tmps w) {w' : World} (hb : Go.RowKit.Below w.heap.size w w') {G' : Nat → Prop} (hG1 : ∀ b, G b → G' b) (hG2 : ∀ b, G' b → G b ∨ w.heap.size ≤ b) (hG3 : ∀ b, G' b → b < w'.heap.size) :
    Inv E G' gs S tmps w' := by
  have hG : ∀ b, G b → G' b ∧ w'.heap[b]? = w.heap[b]? := fun b h => ⟨hG1 b h, hb.block b (hi.glt b h)⟩
  have hblk : ∀ r row, rowAt S.rows r = some row → ∀ c ∈ gs.all r, w'.heap[c]? = w.heap[c]? := fun r row hr c hc => hb.block c (hi.block_lt hr c hc)
  have hle : ∀ r, RowLe w w' S.rows S.rows gs gs r := fun r => RowLe.refl_of fun row hr => ⟨hr, rfl, fun b hob => hblk r row hr b (by simp [Gh.all, hob])⟩
  refine ⟨fun b h hf => ?_, hb.os.trans hi.os, hb.tape.trans hi.tape, hb.output.trans hi.output, Nat.le_trans hi.size hb.size, hi.sz, fun b h => hG1 b (hi.gsub b h), fun b h => ?_, hG3,
    fun r row hr => (hi.row r row hr).step hG hle (hblk r row hr), hi.nod, fun r row hr b hb' => ?_, hi.dis, fun i => (hi.tmp i).step hG hle (by simp)⟩
  · rw [hb.block b (Nat.lt_of_lt_of_le h hi.size)]; exact hi.keep b h hf
  · rcases hG2 b h with h | h
    · exact hi.gnew b h
    · exact .inr (Nat.le_trans hi.size h)
  · obtain ⟨h1, h2⟩ := hi.own r row hr b hb'
    refine ⟨fun h => ?_, h2⟩
    rcases hG2 b h with h | h
    · exact h1 h
    · have := hi.block_lt hr b hb'; omega

/-- Results told as rows. -/
def rootA : Nat → State → A → A × State
  | 0, S, x => (x, S)
  | k + 1, S, x => match x with
    | .sl true n xs => (.vw S.rows.length 0 xs.length, S.addRow ⟨n, xs, false⟩)
    | .bx xs => (.pt S.rows.length 0 0, S.addRow ⟨xs.length, [.agg xs], true⟩)
    | .agg xs => (.agg (rootL k S xs).1, (rootL k S xs).2)
    | .tup xs => (.tup (rootL k S xs).1, (rootL k S xs).2)
    | x => (x, S)
where rootL (k : Nat) (S : State) : List A → List A × State
    | [] => ([], S)
    | x :: xs => ((rootA k S x).1 :: (rootL k (rootA k S x).2 xs).1, (rootL k (rootA k S x).2 xs).2)
end
end Go.Fw

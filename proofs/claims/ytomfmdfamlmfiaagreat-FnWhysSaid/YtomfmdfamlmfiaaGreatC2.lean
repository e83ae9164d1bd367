/- Calls: arguments told as plain data, results told as rows, contracts. Plain theorems, no condition. -/
import Derived.Test.YtomfmdfamlmfiaaGreatC1
import Derived.Lib.ConvBytes
import Derived.StillTail
set_option linter.unusedVariables false
set_option linter.unusedSimpArgs false
namespace Go.Fw

def mapO (f : A → Option A) : List A → Option (List A)
  | [] => some []
  | x :: xs => match f x, mapO f xs with
    | some y, some ys => some (y :: ys)
    | _, _ => none
/-- What a callee that only reads is told of an argument. -/
def roO (S : State) : Nat → A → Option A
  | 0, _ => none
  | k + 1, x => match x with
    | .vw r off len => match rowAt S.rows r with
      | some row => if row.lk then none else some (.sl false row.n (((row.xs.drop off).take len).map frz))
      | none => none
    | .pt r j o => match rowAt S.rows r with
      | some row => if j < row.xs.length ∧ o ≤ row.n then
          if row.lk then (mapO (roO S k) (((row.xs.getD j .un).cells).drop o)).map A.rp else some (.rp ((((row.xs.getD j .un).cells).drop o).map frz))
        else none
      | none => none
    | .agg xs => (mapO (roO S k) xs).map A.agg
    | .tup xs => (mapO (roO S k) xs).map A.tup
    | .clo g xs => (mapO (roO S k) xs).map (A.clo g)
    | .un => none
    | .mp _ => none
    | .al _ _ => none
    | .sl true n xs => some (.sl false n (xs.map frz))
    | .bx xs => some (.rp (xs.map frz))
    | x => some x

section
variable {P : Program} {E : Env P} {G : Nat → Prop} {gs : Gh} {S : State} {a : Act} {w : World} {tmps : Array Value}

def Old (w : World) : Nat → Prop := fun b => b < w.heap.size

theorem mapO_rel {f : A → Option A} {G' : Nat → Prop} {rows : List (Option Row)} (hf : ∀ x v F y, TRel w G rows gs x v F → f x = some y → Rel w G' y v []) : ∀ {xs : List A} {vs : List Value} {F : List Nat} {ys : List A},
    TRelL w G rows gs xs vs F → mapO f xs = some ys → RelL w G' ys vs []
  | [], _, _, ys, h, hm => by
    cases h
    simp only [mapO, Option.some.injEq] at hm
    subst hm; exact .nil
  | x :: xs, _, _, ys, h, hm => by
    cases h with
    | cons h hl =>
      simp only [mapO] at hm
      cases h1 : f x with
      | none => simp [h1] at hm
      | some y =>
        cases h2 : mapO f xs with
        | none => simp [h1, h2] at hm
        | some zs =>
          simp only [h1, h2, Option.some.injEq] at hm
          subst hm
          exact .cons (F := []) (Fs := []) (hf _ _ _ _ h h1) (mapO_rel hf hl h2)
theorem RelL.frz {xs : List A} {vs : List Value} {F : List Nat} (h : RelL w G xs vs F) {G' : Nat → Prop} (hG : ∀ b, G b → G' b) (hF : ∀ b ∈ F, G' b) : RelL w G' (xs.map Fw.frz) vs [] := by
  induction xs generalizing vs F with
  | nil => cases h; exact .nil
  | cons x xs ih =>
    cases h with
    | cons h hl => exact .cons (F := []) (Fs := []) (h.frz hG fun b hb => hF b (by simp [hb])) (ih hl fun b hb => hF b (by simp [hb]))
theorem roO_rel (hi : Inv E G gs S tmps w) : ∀ (k : Nat) (x : A) (v : Value) (F : List Nat) (y : A), TRel w G S.rows gs x v F → roO S k x = some y → Rel w (Old w) y v [] := by
  intro k
  induction k with
  | zero => intro x v F y _ hy; simp [roO] at hy
  | succ k ih =>
    intro x v F y h hy
    have hGO : ∀ b, G b → Old w b := fun b hb => hi.glt b hb
    have plain : ∀ {x : A} {v : Value}, TRel w G S.rows gs x v F → isData x = true → Rel w (Old w) (Fw.frz x) v [] := fun h hd => (h.data hd).frz hGO (h.data hd).lt
    cases x with
    | un => simp [roO] at hy
    | mp r => simp [roO] at hy
    | al u x => simp [roO] at hy
    | rmp es =>
      simp only [roO, Option.some.injEq] at hy; subst hy
      have h0 := h.data rfl
      obtain rfl : F = [] := h0.noOwn rfl
      exact h0.move_ (fun b hb => ⟨hGO b hb, rfl⟩) (by simp)
    | sc u =>
      simp only [roO, Option.some.injEq] at hy; subst hy
      have := plain h (isData_sc u); rwa [frz_sc] at this
    | nil =>
      simp only [roO, Option.some.injEq] at hy; subst hy
      have := plain h isData_nil; rwa [frz_nil] at this
    | sl o n xs =>
      cases o with
      | true =>
        simp only [roO, Option.some.injEq] at hy; subst hy
        have := plain h (isData_sl true n xs); rwa [frz_sl] at this
      | false =>
        simp only [roO, Option.some.injEq] at hy; subst hy
        exact (h.data (isData_sl false n xs)).noOwn (by simp [noOwn_sl]) ▸ (h.data (isData_sl false n xs)).move_ (fun b hb => ⟨hGO b hb, rfl⟩) (fun b hb => rfl)
    | rp xs =>
      simp only [roO, Option.some.injEq] at hy; subst hy
      exact (h.data (isData_rp xs)).noOwn (by simp [noOwn_rp]) ▸ (h.data (isData_rp xs)).move_ (fun b hb => ⟨hGO b hb, rfl⟩) (fun b hb => rfl)
    | bx xs =>
      simp only [roO, Option.some.injEq] at hy; subst hy
      have := plain h (isData_bx xs); rwa [frz_bx] at this
    | agg xs =>
      simp only [roO, Option.map_eq_some_iff] at hy
      obtain ⟨ys, h1, rfl⟩ := hy
      obtain ⟨cs, rfl, hl⟩ := agg_inv h
      have := Rel.agg (mapO_rel (G' := Old w) (fun x v F y hx hy => ih x v F y hx hy) hl h1)
      simpa using this
    | tup xs =>
      simp only [roO, Option.map_eq_some_iff] at hy
      obtain ⟨ys, h1, rfl⟩ := hy
      obtain ⟨cs, rfl, hl⟩ := tup_inv h
      have := Rel.tup (mapO_rel (G' := Old w) (fun x v F y hx hy => ih x v F y hx hy) hl h1)
      simpa using this
    | clo g xs =>
      simp only [roO, Option.map_eq_some_iff] at hy
      obtain ⟨ys, h1, rfl⟩ := hy
      cases h with
      | of h => cases h with | clo hl => exact .clo (mapO_rel (gs := gs) (rows := S.rows) (G' := Old w) (fun x v F y hx hy => ih x v F y hx hy) (.of hl) h1)
      | clo hl => exact .clo (mapO_rel (G' := Old w) (fun x v F y hx hy => ih x v F y hx hy) hl h1)
    | vw r off len =>
      simp only [roO] at hy
      cases hr : rowAt S.rows r with
      | none => simp [hr] at hy
      | some row =>
        simp only [hr] at hy
        split at hy
        · simp at hy
        · rename_i hlk
          simp only [Option.some.injEq] at hy
          subst hy
          rcases vw_inv h with ⟨row', kk, cap, cur, e, b, hr', hob, g1, g2, g3, g4, g5, g6, rfl⟩ | ⟨row', hr', hob, hxs, rfl, rfl, rfl⟩
          · rw [hr] at hr'
            obtain rfl := Option.some.inj hr'
            have hrr := hi.row r row hr
            rw [hob] at hrr
            obtain ⟨cur', e', cap', h1, h2, h3, h4, h5, h6, h7⟩ := hrr.ex
            rw [g2] at h1
            simp only [Option.some.injEq, Obj.cells.injEq] at h1
            obtain ⟨rfl, rfl, _⟩ := h1
            unfold CellsRel at h7
            rw [if_neg hlk] at h7
            obtain ⟨F1, F2, e1, _, k2⟩ := h7.take_ (off * row.n)
            obtain ⟨F3, F4, e2, k3, _⟩ := k2.take_ (len * row.n)
            rw [flat_drop off h5, flat_take len (fun y hy => h5 y (List.mem_of_mem_drop hy))] at k3
            have hle : (off + len) * row.n ≤ row.xs.length * row.n := Nat.mul_le_mul_right _ g1
            rw [Nat.add_mul] at hle
            rw [List.drop_take, List.take_take, Nat.min_eq_left (by omega)] at k3
            have k4 := RelL.frz k3 (G' := Old w) hGO k3.lt
            rw [← flat_frz] at k4
            have hlen : len = (((row.xs.drop off).take len).map Fw.frz).length := by simp; omega
            have hw : ∀ y ∈ ((row.xs.drop off).take len).map Fw.frz, y.width = row.n := fun y hy => by
              obtain ⟨z, hz, rfl⟩ := List.mem_map.1 hy
              rw [width_frz]; exact h5 z (List.mem_of_mem_drop (List.mem_of_mem_take hz))
            have hold : Old w b := (Array.getElem?_eq_some_iff.1 g2).1
            refine .ro g2 hold hw hlen rfl ?_ (by omega) (by omega)
            rcases g6 with hk | hk
            · rw [hk]; exact k4
            · have h0 : len = 0 := by omega
              subst h0
              simpa using k4
          · rw [hr] at hr'
            obtain rfl := Option.some.inj hr'
            simpa using Rel.nils
    | pt r j o =>
      simp only [roO] at hy
      cases hr : rowAt S.rows r with
      | none => simp [hr] at hy
      | some row =>
        simp only [hr] at hy
        by_cases hjo : j < row.xs.length ∧ o ≤ row.n
        case neg => rw [if_neg hjo] at hy; simp at hy
        rw [if_pos hjo] at hy
        obtain ⟨row', b, hr', hb, rfl⟩ := pt_inv h
        rw [hr] at hr'
        obtain rfl := Option.some.inj hr'
        obtain ⟨b', hb', hrc⟩ := row_real hi hr (by omega) (.inr ⟨_, hb⟩)
        rw [hb] at hb'
        obtain rfl := Option.some.inj hb'
        obtain ⟨cur, e, cap, h1, h2, h3, h4, h5, h6, h7⟩ := hrc.ex
        have hz : row.xs[j]? = some (row.xs.getD j .un) := by simp [List.getD_eq_getElem?_getD, List.getElem?_eq_getElem hjo.1]
        generalize row.xs.getD j .un = x at hy hz
        have hw := h5 x (List.mem_of_getElem? hz)
        unfold A.width at hw
        have hseg := flat_seg h5 hz o (row.n - o) (by omega)
        have hxl : ((x.cells.drop o).take (row.n - o)) = x.cells.drop o := by rw [List.take_of_length_le (by simp; omega)]
        have hle : (j + 1) * row.n ≤ row.xs.length * row.n := Nat.mul_le_mul_right _ hjo.1
        rw [Nat.add_mul] at hle
        have hcur : ((cur.toList.take (row.xs.length * row.n)).drop (j * row.n + o)).take (row.n - o) = (cur.toList.drop (j * row.n + o)).take (row.n - o) := by
          rw [List.drop_take, List.take_take, Nat.min_eq_left (by omega)]
        have hold : Old w b := (Array.getElem?_eq_some_iff.1 h1).1
        have hlenx : (x.cells.drop o).length = row.n - o := by simp; omega
        obtain ⟨F1, F2, e1, _, k2⟩ := h7.t.take_ (j * row.n + o)
        obtain ⟨F3, F4, e2, k3, _⟩ := k2.take_ (row.n - o)
        rw [hseg, hxl, hcur] at k3
        by_cases hlk : row.lk = true
        · rw [if_pos hlk] at hy
          simp only [Option.map_eq_some_iff] at hy
          obtain ⟨ys, hm, rfl⟩ := hy
          have k4 := mapO_rel (G' := Old w) (fun x v F y hx hy => ih x v F y hx hy) k3 hm
          have hyl : ys.length = row.n - o := by rw [← k4.length, k3.length, hlenx]
          exact .rp h1 hold rfl (by rw [hyl]; exact k4)
        · rw [if_neg hlk] at hy
          simp only [Option.some.injEq] at hy
          subst hy
          unfold CellsRel at h7
          rw [if_neg hlk] at h7
          obtain ⟨F1', F2', e1', _, k2'⟩ := h7.take_ (j * row.n + o)
          obtain ⟨F3', F4', e2', k3', _⟩ := k2'.take_ (row.n - o)
          rw [hseg, hxl, hcur] at k3'
          have k4 := RelL.frz k3' (G' := Old w) hGO k3'.lt
          exact .rp h1 hold rfl (by rw [List.length_map, hlenx]; exact k4)

/-- One way of telling serves for another. -/
def fitA : Nat → A → A → Prop
  | 0, x, y => x = y
  | k + 1, x, y => match x, y with
    | .nil, .sl _ _ ys => ys = []
    | .sl o n xs, .sl o' n' ys => o = o' ∧ n = n' ∧ fitL k xs ys
    | .agg xs, .agg ys => fitL k xs ys
    | .tup xs, .tup ys => fitL k xs ys
    | x, y => x = y
where fitL (k : Nat) : List A → List A → Prop
    | [], [] => True
    | x :: xs, y :: ys => fitA k x y ∧ fitL k xs ys
    | _, _ => False
theorem fitL_rel {k : Nat} (ih : ∀ x y v F, fitA k x y → Rel w G x v F → Rel w G y v F) : ∀ (xs ys : List A) (vs : List Value) (F : List Nat), fitA.fitL k xs ys → RelL w G xs vs F → RelL w G ys vs F
  | [], [], _, _, _, h => h
  | x :: xs, y :: ys, _, _, hf, .cons h hl => by
    rw [fitA.fitL] at hf
    exact .cons (ih x y _ _ hf.1 h) (fitL_rel ih xs ys _ _ hf.2 hl)
  | [], _ :: _, _, _, hf, _ => by rw [fitA.fitL] at hf <;> simp_all
  | _ :: _, [], _, _, hf, _ => by rw [fitA.fitL] at hf <;> simp_all
theorem fitL_length {k : Nat} : ∀ (xs ys : List A), fitA.fitL k xs ys → xs.length = ys.length
  | [], [], _ => rfl
  | x :: xs, y :: ys, h => by
    rw [fitA.fitL] at h
    simp [fitL_length xs ys h.2]
  | [], _ :: _, h => by rw [fitA.fitL] at h <;> simp_all
  | _ :: _, [], h => by rw [fitA.fitL] at h <;> simp_all
theorem fitA_width (k : Nat) (x y : A) (h : fitA k x y) : x.width = y.width := by
  cases k with
  | zero => simp only [fitA] at h; rw [h]
  | succ k =>
    unfold fitA at h
    split at h
    · rfl
    · rfl
    · simp only [A.width, A.cells]; exact fitL_length _ _ h
    · rfl
    · rw [h]
theorem fitL_flat {k : Nat} (ih : ∀ j x y v F, j ≤ k → fitA j x y → Rel w G x v F → Rel w G y v F) : ∀ (xs ys : List A) (vs : List Value) (F : List Nat), fitA.fitL k xs ys → RelL w G (flat xs) vs F → RelL w G (flat ys) vs F
  | [], [], _, _, _, h => h
  | x :: xs, y :: ys, vs, F, hf, h => by
    rw [fitA.fitL] at hf
    have e1 : flat (x :: xs) = x.cells ++ flat xs := by simp [flat]
    have e2 : flat (y :: ys) = y.cells ++ flat ys := by simp [flat]
    rw [e1] at h
    rw [e2]
    obtain ⟨F1, F2, rfl, h1, h2⟩ := h.split
    have hw := fitA_width k x y hf.1
    unfold A.width at hw
    have h1' : RelL w G y.cells (vs.take x.cells.length) F1 := by
      cases k with
      | zero => have e := hf.1; simp only [fitA] at e; rw [← e]; exact h1
      | succ k =>
        have hxy := hf.1
        unfold fitA at hxy
        split at hxy
        · rename_i o n ys'
          subst hxy
          refine fitL_rel (k := 1) (fun x y v F => ih 1 x y v F (by omega)) [.nil] [.sl o n []] _ _ ?_ h1
          simp [fitA.fitL, fitA]
        · rename_i o n xs' o' n' ys'
          refine fitL_rel (k := k + 1) (fun x y v F => ih (k + 1) x y v F (Nat.le_refl _)) [.sl o n xs'] [.sl o' n' ys'] _ _ ?_ h1
          simp only [fitA.fitL, and_true]
          exact hf.1
        · exact fitL_rel (k := k) (fun x y v F => ih k x y v F (by omega)) _ _ _ _ hxy h1
        · rename_i xs' ys'
          refine fitL_rel (k := k + 1) (fun x y v F => ih (k + 1) x y v F (Nat.le_refl _)) [.tup xs'] [.tup ys'] _ _ ?_ h1
          simp only [fitA.fitL, and_true]
          exact hf.1
        · rw [← hxy]; exact h1
    have h3 := h1'.append (fitL_flat ih xs ys _ _ hf.2 h2)
    rwa [List.take_append_drop] at h3
  | [], _ :: _, _, _, hf, _ => by rw [fitA.fitL] at hf <;> simp_all
  | _ :: _, [], _, _, hf, _ => by rw [fitA.fitL] at hf <;> simp_all
theorem fitL_widths {k n : Nat} : ∀ (xs ys : List A), fitA.fitL k xs ys → (∀ x ∈ xs, x.width = n) → ∀ y ∈ ys, y.width = n
  | [], [], _, h => by simp
  | x :: xs, y :: ys, hf, h => by
    rw [fitA.fitL] at hf
    intro z hz
    rcases List.mem_cons.1 hz with rfl | hz
    · rw [← fitA_width k x z hf.1]; exact h x (by simp)
    · exact fitL_widths xs ys hf.2 (fun x hx => h x (by simp [hx])) z hz
  | [], _ :: _, hf, _ => by rw [fitA.fitL] at hf <;> simp_all
  | _ :: _, [], hf, _ => by rw [fitA.fitL] at hf <;> simp_all
theorem fitA_relN : ∀ (k j : Nat) (x y : A) (v : Value) (F : List Nat), j ≤ k → fitA j x y → Rel w G x v F → Rel w G y v F := by
  intro k
  induction k with
  | zero => intro j x y v F hj hf h; obtain rfl : j = 0 := by omega
            simp only [fitA] at hf; subst hf; exact h
  | succ k ih =>
    intro j x y v F hj hf h
    cases j with
    | zero => simp only [fitA] at hf; subst hf; exact h
    | succ j =>
      have ih' : ∀ i x y v F, i ≤ j → fitA i x y → Rel w G x v F → Rel w G y v F := fun i x y v F hi => ih i x y v F (by omega)
      unfold fitA at hf
      split at hf
      · subst hf; cases h; exact .nils
      · rename_i o n xs o' n' ys
        obtain ⟨rfl, rfl, hf⟩ := hf
        have hl := fitL_length _ _ hf
        cases h with
        | nils => obtain rfl : ys = [] := by cases ys with
            | nil => rfl
            | cons _ _ => simp at hl
                  exact .nils
        | roz => obtain rfl : ys = [] := by cases ys with
            | nil => rfl
            | cons _ _ => simp at hl
                 exact .roz
        | ro hh hg hw hlen hc hrel hcap hm => exact .ro hh hg (fitL_widths _ _ hf hw) (by rw [hlen, hl]) hc (fitL_flat ih' _ _ _ _ hf hrel) hcap hm
        | ow hh hw hlen hc hrel hcap hm hs hv => exact .ow hh (fitL_widths _ _ hf hw) (by rw [hlen, hl]) hc (fitL_flat ih' _ _ _ _ hf hrel) hcap hm hs hv
      · cases h with | agg hl => exact .agg (fitL_rel (fun x y v F => ih' j x y v F (Nat.le_refl _)) _ _ _ _ hf hl)
      · cases h with | tup hl => exact .tup (fitL_rel (fun x y v F => ih' j x y v F (Nat.le_refl _)) _ _ _ _ hf hl)
      · subst hf; exact h
theorem fitA_rel (k : Nat) (x y : A) (v : Value) (F : List Nat) (hf : fitA k x y) (h : Rel w G x v F) : Rel w G y v F := fitA_relN k k x y v F (Nat.le_refl _) hf h

/-- The machine enters the function when it is called. -/
def Enter (P : Program) (g : Nat) : Prop := ∀ (args : Array Value) (w : World), (callFunc g args).run P w = .ok (.enter g args) w

/-- A contract of a function that turns nothing that was there: told these arguments it hands back x, new where it is told as held alone. -/
structure PCtr (P : Program) (g : Nat) (args : List A) (x : A) : Prop where
  enter : Enter P g
  run : ∀ (w : World) (G : Nat → Prop) (vs : List Value), GoodG P w G → RelL w G args vs [] → Calls P g vs.toArray w (fun e w' => ∃ v F, e = .returned v ∧ Go.RowKit.Below w.heap.size w w' ∧
    F.Nodup ∧ (∀ b ∈ F, w.heap.size ≤ b) ∧ Rel w' (fun b => (G b ∨ (w.heap.size ≤ b ∧ b < w'.heap.size)) ∧ b ∉ F) x v F)

/-- What a call comes to, from state S. -/
def CallOK (P : Program) (g : Nat) (args : List A) (S : State) (K : A → State → Prop) : Prop :=
  Enter P g ∧ ∀ (E : Env P) (G : Nat → Prop) (gs : Gh) (tmps : Array Value) (w : World) (vs : List Value), Inv E G gs S tmps w → TRelL w G S.rows gs args vs [] →
    Calls P g vs.toArray w (fun e w' => ∃ v x S' G' gs', e = .returned v ∧ K x S' ∧ Inv E G' gs' S' tmps w' ∧ TRel w' G' S'.rows gs' x v [])

theorem Inv.below (hi : Inv E G gs S tmps w) {w' : World} (hb : Go.RowKit.Below w.heap.size w w') {G' : Nat → Prop} (hG1 : ∀ b, G b → G' b) (hG2 : ∀ b, G' b → G b ∨ w.heap.size ≤ b) (hG3 : ∀ b, G' b → b < w'.heap.size) :
    Inv E G' gs S tmps w' := by
  have hG : ∀ b, G b → G' b ∧ w'.heap[b]? = w.heap[b]? := fun b h => ⟨hG1 b h, hb.block b (hi.glt b h)⟩
  have hblk : ∀ r row, rowAt S.rows r = some row → ∀ c ∈ gs.all r, w'.heap[c]? = w.heap[c]? := fun r row hr c hc => hb.block c (hi.block_lt hr c hc)
  have hle : ∀ r, RowLe w w' S.rows S.rows gs gs r := fun r => RowLe.refl_of fun row hr => ⟨hr, rfl, fun b hob => hblk r row hr b (by simp [Gh.all, hob])⟩
  refine ⟨fun b h hf => ?_, hb.os.trans hi.os, hb.tape.trans hi.tape, hb.output.trans hi.output, Nat.le_trans hi.size hb.size, hi.sz, fun b h => hG1 b (hi.gsub b h), fun b h => ?_, hi.glt.move hG1 (fun b h => (hG b h).2) hG3,
    fun r row hr => (hi.row r row hr).step hG hle (hblk r row hr), hi.nod, fun r row hr b hb' => ?_, hi.dis, fun i => (hi.tmp i).step hG hle (by simp)⟩
  · rw [hb.block b (Nat.lt_of_lt_of_le h hi.size)]; exact hi.keep b h hf
  · rcases hG2 b h with h | h
    · exact hi.gnew b h
    · exact .inr (.inr (Nat.le_trans hi.size h))
  · obtain ⟨h1, h2⟩ := hi.own r row hr b hb'
    refine ⟨fun h => ?_, h2⟩
    rcases hG2 b h with h | h
    · exact h1 h
    · have := hi.block_lt hr b hb'; omega

/-- Results told as rows. -/
def rootA : Nat → State → A → A × State
  | 0, S, x => (x, S)
  | k + 1, S, x => match x with
    | .sl true n xs => (.vw S.rows.length 0 xs.length, S.addRow ⟨n, xs, false⟩)
    | .bx xs => (.pt S.rows.length 0 0, S.addRow ⟨xs.length, [.agg xs], true⟩)
    | .agg xs => (.agg (rootL k S xs).1, (rootL k S xs).2)
    | .tup xs => (.tup (rootL k S xs).1, (rootL k S xs).2)
    | x => (x, S)
where rootL (k : Nat) (S : State) : List A → List A × State
    | [] => ([], S)
    | x :: xs => ((rootA k S x).1 :: (rootL k (rootA k S x).2 xs).1, (rootL k (rootA k S x).2 xs).2)
end
end Go.Fw

/- Calls taken by contract; contracts proved from a walk of the body. Plain theorems, no condition. -/
set_option linter.unusedVariables false
set_option linter.unusedSimpArgs false
namespace Go.Fw

section
variable {P : Program} {E : Env P} {G : Nat → Prop} {gs : Gh} {S : State} {a : Act} {w : World} {tmps : Array Value}

structure Rooted (E : Env P) (G : Nat → Prop) (gs gs' : Gh) (S S' : State) (tmps : Array Value) (w : World) (R : List Nat) : Prop where
  inv : Inv E G gs' S' tmps w
  res : Res E G gs' S'.rows R
  keep : ∀ x v, TRel w G S.rows gs x v [] → TRel w G S'.rows gs' x v []

theorem adopt_res (hi : Inv E G gs S tmps w) {R1 R2 : List Nat} (hR : Res E G gs S.rows (R1 ++ R2)) (hlt : ∀ b ∈ R1 ++ R2, b < w.heap.size) {ob : Option Nat} {F : List Nat} (hF : R1 = ob.toList ++ F) {row : Row}
    (hrow : ∀ rows' gs', RowRel w G rows' gs' row ob F) : Rooted E G gs (gs.add S.rows.length ob F) S (S.addRow row) tmps w R2 := by
  subst hF
  have hnd := hR.nod
  rw [List.nodup_append] at hnd
  obtain ⟨n1, n2, n3⟩ := hnd
  have hinv := hi.adopt (w' := w) (G' := G) (R := F) (ob := ob) (row := row) rfl rfl rfl (Nat.le_refl _) (fun _ _ => rfl) (fun _ h => h) (fun _ h => .inl h) hi.glt n1
    (fun b hb => hR.own b (by rw [List.mem_append]; exact .inl hb)) (fun r row' hr b hb hb2 => hR.dis r row' hr b hb (by rw [List.mem_append]; exact .inl hb2)) (fun rows' gs' _ => hrow rows' gs')
  have hself : (gs.add S.rows.length ob F) S.rows.length = (ob, F) := by simp [Gh.add]
  have hne : ∀ r row', rowAt S.rows r = some row' → r ≠ S.rows.length := fun r row' hr => by have := rowAt_lt hr; omega
  refine ⟨hinv, ⟨n2, fun b hb => hR.own b (by simp [hb]), fun r row' hr b hb hb2 => ?_⟩, fun x v hx => ?_⟩
  · have hr' : rowAt (S.rows ++ [some row]) r = some row' := hr
    rw [rowAt_push] at hr'
    split at hr'
    · rename_i h; subst h
      have : b ∈ ob.toList ++ F := by simpa [Gh.all, hself] using hb
      exact n3 b this b hb2 rfl
    · rename_i h
      have : gs.all r = (gs.add S.rows.length ob F).all r := by simp [Gh.all, Gh.add, h]
      rw [← this] at hb
      exact hR.dis r row' hr' b hb (by simp [hb2])
  · refine hx.step (fun b hb => ⟨hb, rfl⟩) (fun r => RowLe.refl_of fun row' hr => ⟨?_, ?_, fun _ _ => rfl⟩) (by simp)
    · show rowAt (S.rows ++ [some row]) r = _
      rw [rowAt_push, if_neg (hne r row' hr)]; exact hr
    · simp [Gh.add, hne r row' hr]

theorem rootL_nil (k : Nat) (S : State) : rootA.rootL k S [] = ([], S) := by rw [rootA.rootL]
theorem rootL_cons (k : Nat) (S : State) (x : A) (xs : List A) : rootA.rootL k S (x :: xs) = ((rootA k S x).1 :: (rootA.rootL k (rootA k S x).2 xs).1, (rootA.rootL k (rootA k S x).2 xs).2) := by rw [rootA.rootL]
theorem rootL_ok {k : Nat} (ih : ∀ (S : State) (gs : Gh) (x : A) (v : Value) (R1 R2 : List Nat), Inv E G gs S tmps w → Res E G gs S.rows (R1 ++ R2) → (∀ b ∈ R1 ++ R2, b < w.heap.size) → Rel w G x v R1 → noOwn (rootA k S x).1 = true →
      ∃ gs', Rooted E G gs gs' S (rootA k S x).2 tmps w R2 ∧ TRel w G (rootA k S x).2.rows gs' (rootA k S x).1 v []) :
    ∀ (xs : List A) (S : State) (gs : Gh) (vs : List Value) (R1 R2 : List Nat), Inv E G gs S tmps w → Res E G gs S.rows (R1 ++ R2) → (∀ b ∈ R1 ++ R2, b < w.heap.size) → RelL w G xs vs R1 → (rootA.rootL k S xs).1.all noOwn = true →
      ∃ gs', Rooted E G gs gs' S (rootA.rootL k S xs).2 tmps w R2 ∧ TRelL w G (rootA.rootL k S xs).2.rows gs' (rootA.rootL k S xs).1 vs []
  | [], S, gs, _, _, R2, hi, hR, hlt, h, _ => by
    cases h
    rw [rootL_nil]
    exact ⟨gs, ⟨hi, by simpa using hR, fun x v h => h⟩, .nil⟩
  | x :: xs, S, gs, _, _, R2, hi, hR, hlt, h, hno => by
    cases h with
    | cons h hl =>
      rename_i v F vs Fs
      rw [List.append_assoc] at hR hlt
      rw [rootL_cons] at hno ⊢
      simp only [List.all_cons, Bool.and_eq_true] at hno
      obtain ⟨gs1, h1, h2⟩ := ih S gs x v F (Fs ++ R2) hi hR hlt h hno.1
      obtain ⟨gs2, h3, h4⟩ := rootL_ok ih xs _ gs1 vs Fs R2 h1.inv h1.res (fun b hb => hlt b (by rw [List.mem_append]; exact .inr hb)) hl hno.2
      exact ⟨gs2, ⟨h3.inv, h3.res, fun x v hx => h3.keep x v (h1.keep x v hx)⟩, .cons (F := []) (Fs := []) (h3.keep _ _ h2) h4⟩
theorem rootA_ok : ∀ (k : Nat) (S : State) (gs : Gh) (x : A) (v : Value) (R1 R2 : List Nat), Inv E G gs S tmps w → Res E G gs S.rows (R1 ++ R2) → (∀ b ∈ R1 ++ R2, b < w.heap.size) → Rel w G x v R1 → noOwn (rootA k S x).1 = true →
      ∃ gs', Rooted E G gs gs' S (rootA k S x).2 tmps w R2 ∧ TRel w G (rootA k S x).2.rows gs' (rootA k S x).1 v [] := by
  intro k
  induction k with
  | zero =>
    intro S gs x v R1 R2 hi hR hlt h hno
    simp only [rootA] at hno ⊢
    have h0 := h.noOwn hno
    subst h0
    exact ⟨gs, ⟨hi, by simpa using hR, fun x v h => h⟩, .of h⟩
  | succ k ih =>
    intro S gs x v R1 R2 hi hR hlt h hno
    have plain : noOwn x = true → ∃ gs', Rooted E G gs gs' S S tmps w R2 ∧ TRel w G S.rows gs' x v [] := fun hno => by
      have h0 := h.noOwn hno
      subst h0
      exact ⟨gs, ⟨hi, by simpa using hR, fun x v h => h⟩, .of h⟩
    have hrow : ∀ (row : Row) (ob : Option Nat) (F : List Nat), rowAt (S.addRow row).rows S.rows.length = some row := fun row _ _ => by
      show rowAt (S.rows ++ [some row]) S.rows.length = _
      rw [rowAt_push, if_pos rfl]
    have hself : ∀ ob F, (gs.add S.rows.length ob F) S.rows.length = (ob, F) := fun ob F => by simp [Gh.add]
    cases x with
    | sl o n xs =>
      cases o with
      | false => exact plain hno
      | true =>
        simp only [rootA]
        cases h with
        | nils =>
          have := adopt_res (ob := none) (F := []) hi hR hlt rfl (row := ⟨n, [], false⟩) (fun _ _ => .inl ⟨rfl, rfl⟩)
          exact ⟨_, this, .vwn (hrow _ none []) (by rw [hself]) rfl⟩
        | ow hh hw hlen hc hl hcap hm hs hv0 =>
          rename_i b len cap cur e cs F
          subst hlen
          subst hc
          have hlen2 := hl.length
          have := adopt_res (ob := some b) (F := F) hi hR hlt rfl (row := ⟨n, xs, false⟩) (fun rows' gs' => ⟨cur, e, cap, hh, hs, .of hcap, hm, hw, hv0, hl⟩)
          have hv := TRel.vw (w := w) (G := G) (rows := (S.addRow ⟨n, xs, false⟩).rows) (gs := gs.add S.rows.length (some b) F) (off := 0) (len := xs.length) (k := 0) (hrow _ none []) (by rw [hself]) (by simp) hh hs hm hcap (.inl (by simp))
          exact ⟨_, this, by simpa using hv⟩
    | bx xs =>
      simp only [rootA]
      cases h with
      | bx hh hl hv0 =>
        rename_i b cur e F
        have hlen := hl.length
        have hsz : cur.size = xs.length := by simpa using hlen
        have htk : cur.toList.take ([A.agg xs].length * xs.length) = cur.toList := by rw [List.length_singleton, Nat.one_mul, ← hlen, List.take_length]
        have hfl : flat [A.agg xs] = xs := by simp [flat, A.cells]
        have := adopt_res (ob := some b) (F := F) hi hR hlt rfl (row := ⟨xs.length, [.agg xs], true⟩) (fun rows' gs' => ⟨cur, e, 1, hh, by simpa using hsz, ⟨by simp, fun _ => by simp⟩, by simp [maxLen], by simp [A.width, A.cells], by
          show ∀ v ∈ cur.toList.take ([A.agg xs].length * xs.length), _
          rw [htk]; exact hv0, by
          show TRelL w G rows' gs' (flat [A.agg xs]) (cur.toList.take ([A.agg xs].length * xs.length)) F
          rw [htk, hfl]; exact .of hl⟩)
        exact ⟨_, this, .pt (hrow _ none []) (by rw [hself]) (by simp)⟩
    | agg xs =>
      simp only [rootA] at hno ⊢
      rw [noOwn_agg] at hno
      cases h with
      | agg hl =>
        obtain ⟨gs', h1, h2⟩ := rootL_ok ih xs S gs _ _ R2 hi hR hlt hl hno
        exact ⟨gs', h1, .agg h2⟩
    | tup xs =>
      simp only [rootA] at hno ⊢
      rw [noOwn_tup] at hno
      cases h with
      | tup hl =>
        obtain ⟨gs', h1, h2⟩ := rootL_ok ih xs S gs _ _ R2 hi hR hlt hl hno
        exact ⟨gs', h1, .tup h2⟩
    | _ => exact plain hno
end
end Go.Fw

/- Calls by contract: the two rules; a contract out of a walk of the body. Plain theorems, no condition. -/
set_option linter.unusedVariables false
set_option linter.unusedSimpArgs false
namespace Go.Fw

section
variable {P : Program} {E : Env P} {G : Nat → Prop} {gs : Gh} {S : State} {a : Act} {w : World} {tmps : Array Value}

/-- A new result is taken over. -/
theorem adopt_new (hi : Inv E G gs S tmps w) {w' : World} (hb : Go.RowKit.Below w.heap.size w w') {F : List Nat} (hnd : F.Nodup) (hnew : ∀ b ∈ F, w.heap.size ≤ b) {G' : Nat → Prop}
    (hG1 : ∀ b, G b → G' b) (hG2 : ∀ b, G' b → (G b ∨ w.heap.size ≤ b) ∧ b ∉ F) (hG3 : ∀ b, G' b → b < w'.heap.size) {x : A} {v : Value} (hx : Rel w' G' x v F) (k : Nat) (hno : noOwn (rootA k S x).1 = true) :
    ∃ gs', Inv E G' gs' (rootA k S x).2 tmps w' ∧ TRel w' G' (rootA k S x).2.rows gs' (rootA k S x).1 v [] := by
  have hi' := hi.below hb hG1 (fun b h => (hG2 b h).1) hG3
  have hR : Res E G' gs S.rows (F ++ []) := by
    rw [List.append_nil]
    refine ⟨hnd, fun b hb' => ⟨fun h => (hG2 b h).2 hb', .inr (Nat.le_trans hi.size (hnew b hb'))⟩, fun r row hr b hb' hbF => ?_⟩
    have := hi.block_lt hr b hb'
    have := hnew b hbF
    omega
  obtain ⟨gs', h1, h2⟩ := rootA_ok k S gs x v F [] hi' hR (fun b hb' => hx.lt b (by simpa using hb')) hx hno
  exact ⟨gs', h1.inv, h2⟩

theorem CallOK_pure {g k : Nat} {args ys0 ys : List A} {x : A} {K : A → State → Prop} (hc : PCtr P g ys x) (h1 : mapO (roO S k) args = some ys0) (h2 : fitA.fitL k ys0 ys) (hx : roFree x = true)
    (hno : noOwn (rootA k S x).1 = true) (hK : K (rootA k S x).1 (rootA k S x).2) : CallOK P g args S K := by
  refine ⟨hc.enter, fun E G gs tmps w vs hi hl => ?_⟩
  have hys := fitL_rel (fun x y v F => fitA_rel k x y v F) ys0 ys vs [] h2 (mapO_rel (fun x v F y h hy => roO_rel hi k x v F y h hy) hl h1)
  refine Calls.mono (hc.run w (Old w) vs hi.glt.old hys) ?_
  rintro e w' ⟨v, F, rfl, hb, hnd, hnew, hr⟩
  have hr' : Rel w' (fun b => G b ∧ b ∉ F) x v F := hr.anyG hx _
  have hGF : ∀ b, G b → b ∉ F := fun b h hF => by have := hi.glt b h; have := hnew b hF; omega
  obtain ⟨gs', g1, g2⟩ := adopt_new hi hb hnd hnew (G' := fun b => G b ∧ b ∉ F) (fun b h => ⟨h, hGF b h⟩) (fun b h => ⟨.inl h.1, h.2⟩) (fun b h => Nat.lt_of_lt_of_le (hi.glt b h.1) hb.size) hr' k hno
  exact ⟨v, _, _, _, gs', rfl, hK, g1, g2⟩

/-- What comes back may lead into what was handed over: all of it only read. -/
theorem CallOK_share {g k : Nat} {args ys : List A} {x : A} {K : A → State → Prop} (hc : PCtr P g ys x) (h1 : args.all isData = true) (h2 : fitA.fitL k args ys)
    (hno : noOwn (rootA k S x).1 = true) (hK : K (rootA k S x).1 (rootA k S x).2) : CallOK P g args S K := by
  refine ⟨hc.enter, fun E G gs tmps w vs hi hl => ?_⟩
  have hys := fitL_rel (fun x y v F => fitA_rel k x y v F) args ys vs [] h2 (hl.data h1)
  refine Calls.mono (hc.run w G vs hi.glt hys) ?_
  rintro e w' ⟨v, F, rfl, hb, hnd, hnew, hr⟩
  have hGF : ∀ b, G b → b ∉ F := fun b h hF => by have := hi.glt b h; have := hnew b hF; omega
  obtain ⟨gs', g1, g2⟩ := adopt_new hi hb hnd hnew (fun b h => ⟨.inl h, hGF b h⟩) (fun b h => ⟨h.1.imp id And.left, h.2⟩)
    (fun b h => h.1.elim (fun h => Nat.lt_of_lt_of_le (hi.glt b h) hb.size) And.right) hr k hno
  exact ⟨v, _, _, _, gs', rfl, hK, g1, g2⟩

theorem TRel.clo_inv {rows : List (Option Row)} {g : Nat} {xs : List A} {u : Value} {F : List Nat} (h : TRel w G rows gs (.clo g xs) u F) : ∃ cs : Array Value, u = mkFn g cs.toList ∧ TRelL w G rows gs xs cs.toList F := by
  cases h with
  | of h => cases h with | clo h => rename_i cs; exact ⟨cs.toArray, rfl, by simpa using TRelL.of h⟩
  | clo h => rename_i cs; exact ⟨cs.toArray, rfl, by simpa using h⟩
theorem evs_rel (h : Inv E G gs S a.tmps w) : ∀ (xs : List Operand), TRelL w G S.rows gs (xs.map (ev S)) (xs.map a.eval) []
  | [] => .nil
  | x :: xs => by
    have := TRelL.cons (ev_rel h x rfl) (evs_rel h xs)
    simpa using this
/-- What is called, and with what, when a function value is called. -/
def cloN (g : Nat) : Nat := if g < 1000000 then g else g % 1000000
def cloA {α : Type} (g : Nat) (args caps : List α) : List α := if g < 1000000 then args ++ caps else caps ++ args
theorem clo_call {ρ : Operand → Value} {o : Oper} {ci : Call} {f : Operand} {g : Nat} {cs : List Value} (ho : o.op = .call ci) (hf : ci.callee = .value f) (hv : ρ f = mkFn g cs) (hen : Enter P (cloN g)) (w : World) :
    (execOp ρ o).run P w = .ok (.enter (cloN g) (cloA g (ci.args.toList.map ρ) cs).toArray) w := by
  unfold mkFn at hv
  unfold cloN at hen
  unfold cloA cloN
  split at hv
  · rename_i hg
    rw [if_pos hg] at hen ⊢
    rw [if_pos hg]
    have e : (ci.args.toList.map ρ ++ cs).toArray = ci.args.map ρ ++ cs.toArray := by simp
    rw [e]
    simp only [execOp, ho, resolve, hf, hv, Deferred.ofValue, Sem.run_bind, Sem.run_pure, Result.andThen_ok, invoke]
    simpa using hen _ w
  · rename_i hg
    rw [if_neg hg] at hen ⊢
    rw [if_neg hg]
    have e : (cs ++ ci.args.toList.map ρ).toArray = cs.toArray ++ ci.args.map ρ := by simp
    rw [e]
    simp only [execOp, ho, resolve, hf, hv, Deferred.ofValue, Sem.run_bind, Sem.run_pure, Result.andThen_ok, invoke]
    simpa using hen _ w
theorem cloA_rel {rows : List (Option Row)} {g : Nat} {xs ys : List A} {us vs : List Value} (h : TRelL w G rows gs xs us []) (h' : TRelL w G rows gs ys vs []) : TRelL w G rows gs (cloA g xs ys) (cloA g us vs) [] := by
  unfold cloA
  split
  · exact h.append0 h'
  · exact h'.append0 h
theorem opOK_call {o : Oper} {K : State → Prop} {ci : Call} {f : Operand} {g : Nat} {caps : List A} (ho : o.op = .call ci) (hf : ci.callee = .value f) (he : ev S f = .clo g caps)
    (h : CallOK P (cloN g) (cloA g (ci.args.toList.map (ev S)) caps) S fun x S' => K (S'.put o.dst x)) : opOK P o S K := by
  intro E a w next Q hs hn
  obtain ⟨hd, G, gs, hi⟩ := hs
  have hf' := ev_rel hi f rfl
  rw [he] at hf'
  obtain ⟨cs, hv, hcs⟩ := hf'.clo_inv
  obtain ⟨hen, hrun⟩ := h
  have hargs := cloA_rel (g := g) (evs_rel hi ci.args.toList) hcs
  have := hrun E G gs a.tmps w _ hi hargs
  unfold Oper.wp
  rw [clo_call ho hf hv hen w, Oper.upon_enter]
  refine Calls.mono this ?_
  rintro e w' ⟨v, x, S', G', gs', rfl, hK, hi', hx'⟩
  exact hn _ _ _ hK ⟨by rw [put_defers]; exact hd, G', gs', hi'.put hx' o.dst⟩

def oneV : List Value → Value
  | [v] => v
  | vs => .tuple vs.toArray
def resOK (P : Program) (tmps : Array Value) (w : World) : List ResultVar → List Value → Prop
  | [], [] => True
  | .tmp t :: rs, v :: vs => v = tmps.getD t undef ∧ resOK P tmps w rs vs
  | .cell a t :: rs, v :: vs => (∃ ad, tmps.getD a undef = .pointer (some ad) ∧ (loadVar t ad).run P w = .ok v w) ∧ resOK P tmps w rs vs
  | _, _ => False
/-- Function g of the program: its body, its temporaries, its results. -/
structure FnAt (P : Program) (g : Nat) (c : Code) (N : Nat) (rs : List ResultVar) : Prop where
  enter : Enter P g
  ex : ∃ fn, P.funcs[g]? = some fn ∧ fn.body = some c ∧ fn.ntmps = N ∧ ∀ tmps w vs, resOK P tmps w rs vs → (results fn tmps).run P w = .ok (oneV vs) w
def isTmp : ResultVar → Bool
  | .tmp _ => true
  | _ => false
theorem resOK_tmps {tmps : Array Value} {w : World} : ∀ {rs : List ResultVar} {vs : List Value}, rs.all isTmp = true → resOK P tmps w rs vs → ∃ is : List Nat, rs = is.map ResultVar.tmp ∧ vs = is.map fun i => tmps.getD i undef
  | [], [], _, _ => ⟨[], rfl, rfl⟩
  | .tmp t :: rs, v :: vs, h, h2 => by
    simp only [List.all_cons, Bool.and_eq_true] at h
    obtain ⟨is, e1, e2⟩ := resOK_tmps h.2 h2.2
    exact ⟨t :: is, by simp [e1], by simp [e2, h2.1]⟩
  | [], _ :: _, _, h2 => by simp [resOK] at h2
  | .tmp _ :: _, [], _, h2 => by simp [resOK] at h2
  | .cell _ _ :: _, _, h, _ => by simp [isTmp] at h
def isC3 : List ResultVar → Bool
  | [.cell _ _, .tmp _, .tmp _] => true
  | _ => false
theorem FnAt.of {g : Nat} {fn : Func} {c : Code} {N : Nat} {rs : List ResultVar} (hf : P.funcs[g]? = some fn) (hname : (fn.name == "runtime.NumGoroutine") = false) (hb : fn.body = some c) (hN : fn.ntmps = N)
    (hr : fn.results.toList = rs) (hl : rs.length = 1 ∨ rs.length = 2 ∨ (rs.length ≤ 6 ∧ rs.all isTmp = true) ∨ isC3 rs = true) : FnAt P g c N rs := by
  have hr' : fn.results = rs.toArray := by rw [← hr]
  refine ⟨fun args w => ?_, fn, hf, hb, hN, fun tmps w vs h => ?_⟩
  · have h1 : fn.name ≠ "runtime.NumGoroutine" := by simpa using hname
    simp [callFunc, hf, h1, hb]
  · rcases hl with hl | hl | hl | hl
    · match rs, vs, hl, hr', h with
      | [.tmp t], [v], _, hr, h => simp [results, hr, oneV, h.1]
      | [.cell a t], [v], _, hr, h =>
        obtain ⟨⟨ad, h1, h2⟩, _⟩ := h
        rw [Array.getD_eq_getD_getElem?] at h1
        simp [results, hr, oneV, h1, asAddr, h2]
      | [.tmp t], [], _, hr, h => simp [resOK] at h
      | [.tmp t], _ :: _ :: _, _, hr, h => simp [resOK] at h
      | [.cell a t], [], _, hr, h => simp [resOK] at h
      | [.cell a t], _ :: _ :: _, _, hr, h => simp [resOK] at h
    · match rs, vs, hl, hr', h with
      | [.tmp t, .tmp q], [v, u], _, hr, h => simp [results, hr, oneV, h.1, h.2.1]
      | [.cell a t, .tmp q], [v, u], _, hr, h =>
        obtain ⟨⟨ad, h1, h2⟩, h3, _⟩ := h
        rw [Array.getD_eq_getD_getElem?] at h1
        simp [results, hr, oneV, h1, asAddr, h2, h3]
      | [.tmp q, .cell a t], [u, v], _, hr, h =>
        obtain ⟨h3, ⟨ad, h1, h2⟩, _⟩ := h
        rw [Array.getD_eq_getD_getElem?] at h1
        simp [results, hr, oneV, h1, asAddr, h2, h3]
      | [.cell a t, .cell b u], [v, z], _, hr, h =>
        obtain ⟨⟨ad, h1, h2⟩, ⟨ae, h3, h4⟩, _⟩ := h
        rw [Array.getD_eq_getD_getElem?] at h1 h3
        simp [results, hr, oneV, h1, asAddr, h2, h3, h4]
      | [.tmp _, _], [], _, hr, h => simp [resOK] at h
      | [.cell _ _, _], [], _, hr, h => simp [resOK] at h
      | [.tmp _, .tmp _], [_], _, hr, h => simp [resOK] at h
      | [.tmp _, .cell _ _], [_], _, hr, h => simp [resOK] at h
      | [.cell _ _, .tmp _], [_], _, hr, h => simp [resOK] at h
      | [.cell _ _, .cell _ _], [_], _, hr, h => simp [resOK] at h
      | [.tmp _, .tmp _], _ :: _ :: _ :: _, _, hr, h => simp [resOK] at h
      | [.tmp _, .cell _ _], _ :: _ :: _ :: _, _, hr, h => simp [resOK] at h
      | [.cell _ _, .tmp _], _ :: _ :: _ :: _, _, hr, h => simp [resOK] at h
      | [.cell _ _, .cell _ _], _ :: _ :: _ :: _, _, hr, h => simp [resOK] at h
    · obtain ⟨is, rfl, rfl⟩ := resOK_tmps hl.2 h
      have hl := hl.1
      rw [List.length_map] at hl
      match is, hl, hr' with
      | [], _, hr => simp [results, hr, oneV]
      | [i], _, hr => simp [results, hr, oneV]
      | [i, j], _, hr => simp [results, hr, oneV]
      | [i, j, k], _, hr => simp [results, hr, oneV]
      | [i, j, k, l], _, hr => simp [results, hr, oneV]
      | [i, j, k, l, m], _, hr => simp [results, hr, oneV]
      | [i, j, k, l, m, n], _, hr => simp [results, hr, oneV]
      | _ :: _ :: _ :: _ :: _ :: _ :: _ :: _, hl, _ => simp at hl
    · unfold isC3 at hl
      split at hl
      · rename_i a t i j
        match vs, h with
        | [v, u, z], h =>
          obtain ⟨⟨ad, h1, h2⟩, h3, h4, _⟩ := h
          rw [Array.getD_eq_getD_getElem?] at h1
          simp [results, hr', oneV, h1, asAddr, h2, h3, h4]
        | [], h => simp [resOK] at h
        | [_], h => simp [resOK] at h
        | [_, _], h => simp [resOK] at h
        | _ :: _ :: _ :: _ :: _, h => simp [resOK] at h
      · cases hl

def entryT : Nat → List A → List (Nat × A)
  | _, [] => []
  | i, x :: xs => (i, x) :: entryT (i + 1) xs
def entryS (N : Nat) (xs : List A) : State := ⟨entryT 0 xs, N, []⟩
theorem lk_entryT : ∀ (xs : List A) (i j : Nat), lk (entryT i xs) j = if i ≤ j then xs.getD (j - i) .un else .un
  | [], i, j => by simp [entryT, lk]
  | x :: xs, i, j => by
    simp only [entryT, lk, lk_entryT xs (i + 1) j]
    by_cases h : i = j
    · subst h; simp
    · rw [if_neg h]
      by_cases h2 : i + 1 ≤ j
      · obtain ⟨d, hd⟩ : ∃ d, j - i = d + 1 := ⟨j - i - 1, by omega⟩
        have : j - (i + 1) = d := by omega
        rw [if_pos h2, if_pos (by omega), hd, this]; simp
      · rw [if_neg h2, if_neg (by omega)]

/-- What is handed back: one value, or several. -/
def oneA : List A → A
  | [x] => x
  | xs => .tup xs
/-- What is handed back is told by x. -/
def Outs (P : Program) (rs : List ResultVar) (x : A) (S : State) : Prop :=
  ∀ (E : Env P) (G : Nat → Prop) (gs : Gh) (tmps : Array Value) (w : World), Inv E G gs S tmps w → ∃ vs zs F k, resOK P tmps w rs vs ∧ RelL w G zs vs F ∧ F.Nodup ∧ (∀ b ∈ F, ¬ G b ∧ (E.Fin b ∨ E.w0.heap.size ≤ b)) ∧ fitA k (oneA zs) x
def outK (P : Program) (rs : List ResultVar) (x : A) : Exit → State → Prop
  | .normal, S | .ret, S => Outs P rs x S
  | _, _ => False
theorem oneA_rel {xs : List A} {vs : List Value} {F : List Nat} (h : RelL w G xs vs F) : Rel w G (oneA xs) (oneV vs) F := by
  cases h with
  | nil => exact Rel.tup .nil
  | cons h hl' =>
    cases hl' with
    | nil => simpa [oneA, oneV] using h
    | cons h2 hl2 => exact Rel.tup (.cons h (.cons h2 hl2))
/-- A walk of the body gives the contract. -/
theorem PCtr.of {g : Nat} {c : Code} {N : Nat} {rs : List ResultVar} {xs : List A} {x : A} (hf : FnAt P g c N rs) (hN : xs.length ≤ N) (h : VC P c (entryS N xs) (outK P rs x)) : PCtr P g xs x := by
  obtain ⟨hen, fn, h1, h2, h3, h4⟩ := hf
  refine ⟨hen, fun w G vs hG hl => ?_⟩
  have hlen := hl.length
  refine calls_of_wp h1 h2 ?_
  have hinv : Inv (P := P) ⟨w, G, fun _ => False, fun _ => undef⟩ G (fun _ => (none, [])) (entryS N xs) (vs.toArray ++ Array.replicate (fn.ntmps - vs.toArray.size) undef) w := by
    refine ⟨fun _ _ _ => rfl, rfl, rfl, rfl, Nat.le_refl _, ?_, fun _ h => h, fun _ h => .inl h, hG, ?_, ?_, ?_, ?_, fun i => ?_⟩
    · simp [entryS, h3]; omega
    · intro r row hr; simp [entryS, rowAt] at hr
    · intro r row hr; simp [entryS, rowAt] at hr
    · intro r row hr; simp [entryS, rowAt] at hr
    · intro r r' row row' hr; simp [entryS, rowAt] at hr
    · show TRel w G [] _ (lk (entryT 0 xs) i) _ []
      rw [lk_entryT, if_pos (Nat.zero_le _), Nat.sub_zero]
      unfold vat
      by_cases hi : i < xs.length
      · obtain ⟨v, hv, hr⟩ := hl.get i xs[i] (List.getElem?_eq_getElem hi)
        rw [List.getD_eq_getElem?_getD, List.getElem?_eq_getElem hi]
        have : (vs.toArray ++ Array.replicate (fn.ntmps - vs.toArray.size) undef).getD i undef = v := by
          rw [Array.getD_eq_getD_getElem?, Array.getElem?_append_left (by simp; omega)]
          simp [hv]
        rw [if_pos (by simp; omega), this]; exact .of hr
      · rw [List.getD_eq_getElem?_getD, List.getElem?_eq_none (by omega)]
        exact .un
  refine wp_mono (h _ { tmps := vs.toArray ++ Array.replicate (fn.ntmps - vs.toArray.size) undef, defers := [] } w ⟨rfl, G, _, hinv⟩) ?_
  rintro e a' w' ⟨S', ⟨hd, G', gs', hi'⟩, hK⟩
  have fin : Outs P rs x S' → a'.defers = [] ∧ ∃ v, (results fn a'.tmps).run P w' = .ok v w' ∧ (∃ v_1 F, Ending.returned v = .returned v_1 ∧ Go.RowKit.Below w.heap.size w w' ∧
      F.Nodup ∧ (∀ b ∈ F, w.heap.size ≤ b) ∧ Rel w' (fun b => (G b ∨ (w.heap.size ≤ b ∧ b < w'.heap.size)) ∧ b ∉ F) x v_1 F) := by
    intro ho
    refine ⟨hd, ?_⟩
    obtain ⟨vs', zs, F, k, g1, g2, g3, g4, g5⟩ := ho _ _ _ _ _ hi'
    have hres := fitA_rel k _ _ _ _ g5 (oneA_rel g2)
    refine ⟨oneV vs', h4 _ _ _ g1, _, F, rfl, ⟨hi'.os, hi'.tape, hi'.output, hi'.size, fun b hb => hi'.keep b hb id⟩, g3, fun b hb => ?_, ?_⟩
    · rcases (g4 b hb).2 with h | h
      · exact h.elim
      · exact h
    · refine hres.move_ (fun b hb => ⟨⟨?_, fun hF => (g4 b hF).1 hb⟩, rfl⟩) (fun b hb => rfl)
      rcases hi'.gnew b hb with h | h | h
      · exact .inl h
      · exact h.elim
      · exact .inr ⟨h, hi'.glt b hb⟩
  cases e with
  | normal => exact fin hK
  | ret => exact fin hK
  | _ => exact hK.elim
end
end Go.Fw

/- Conversions. Plain theorems, no condition. -/
set_option linter.unusedVariables false
set_option linter.unusedSimpArgs false
namespace Go.Fw
/-- A byte, as an element. -/
def byteA (c : UInt8) : A := .sc (.int .u8 (c.toNat : Int))
section
variable {P : Program} {E : Env P} {G : Nat → Prop} {gs : Gh} {S : State} {a : Act} {w : World} {o : Oper}

theorem under_of_agg {t : TypeId} {b : Bool} (h : aggT P t = some b) : ∃ d, P.underlying t = some d := by
  unfold aggT at h
  rw [Option.map_eq_some_iff] at h
  obtain ⟨d, hd, _⟩ := h
  exact ⟨d, hd⟩
theorem VOK_convI {src dst : TypeId} {x : Operand} {b : Bool} {k kk : IntKind} {n : Int} (ho : o.op = .convert src dst x) (hs : aggT P src = some b) (hd : kindT P dst = some kk) (he : ev S x = .sc (.int k n)) :
    VOK P o S (.sc (.int kk (kk.wrap n))) := by
  intro E G gs a w hi
  have h1 := ev_rel hi x rfl
  rw [he] at h1
  have hv := (sc_inv h1).1
  obtain ⟨d, hu⟩ := under_of_agg hs
  have hu2 : P.underlying dst = some (.int kk) := by
    unfold kindT at hd
    split at hd
    · rename_i hh; cases hd; exact hh
    · simp at hd
  refine ⟨.int kk (kk.wrap n), fun w' hw' => ?_, .of (.sc rfl)⟩
  simp [execOp, ho, convert, run_underlying hu, run_underlying hu2, hv, Conv.intToInt]
theorem VOK_convS {src dst : TypeId} {x : Operand} {s : ByteArray} (ho : o.op = .convert src dst x) (hs : isStrT P src = true) (hd : isStrT P dst = true) (he : ev S x = .sc (.string s)) :
    VOK P o S (.sc (.string s)) := by
  intro E G gs a w hi
  have h1 := ev_rel hi x rfl
  rw [he] at h1
  have hv := (sc_inv h1).1
  have hu : ∀ t, isStrT P t = true → P.underlying t = some .string := fun t h => by
    unfold isStrT at h
    split at h
    · assumption
    · simp at h
  refine ⟨.string s, fun w' hw' => ?_, .of (.sc rfl)⟩
  simp [execOp, ho, convert, run_underlying (hu _ hs), run_underlying (hu _ hd), hv]
theorem push_fold : ∀ (ns : List UInt8) (s : ByteArray), (ns.map fun c : UInt8 => (c.toNat : Int)).foldl (fun r n => r.push (UInt8.ofNat n.toNat)) s = mkS (bs s ++ ns)
  | [], s => by simp [mkS_bs]
  | c :: ns, s => by
    simp only [List.map_cons, List.foldl_cons, Int.toNat_natCast, UInt8.ofNat_toNat]
    rw [push_fold ns]
    congr 1
    simp [bs, ByteArray.push]
theorem bytes_vals {G : Nat → Prop} {w : World} : ∀ {ns : List UInt8} {cs : List Value}, RelL w G (ns.map byteA) cs [] → cs = (ns.map fun c : UInt8 => (c.toNat : Int)).map (Value.int .u8)
  | ns, cs, h => by
    generalize hx : ns.map byteA = xs at h
    generalize hF : ([] : List Nat) = F at h
    cases h with
    | nil => have : ns = [] := by simpa using hx
             subst this; rfl
    | cons h hl =>
      rename_i x v F xs vs Fs
      have hF' : F = [] ∧ Fs = [] := by simpa using hF.symm
      obtain ⟨rfl, rfl⟩ := hF'
      cases ns with
      | nil => simp at hx
      | cons c ns =>
        simp only [List.map_cons, List.cons.injEq] at hx
        obtain ⟨hx1, hx2⟩ := hx
        subst hx2
        have := bytes_vals hl
        subst hx1
        cases h
        rw [this]; rfl
theorem flat_bytes (ns : List UInt8) : flat (ns.map byteA) = ns.map byteA := by
  induction ns with
  | nil => rfl
  | cons c ns ih => rw [List.map_cons, flat_cons, ih]; rfl
/-- string(b). -/
theorem VOK_bytesStr {src dst e : TypeId} {x : Operand} {ns : List UInt8} (ho : o.op = .convert src dst x) (hs : elemT P src = some e) (hk : kindT P e = some .u8) (hd : isStrT P dst = true)
    (hx : ∀ (E : Env P) (G : Nat → Prop) (gs : Gh) (a : Act) (w : World), Inv E G gs S a.tmps w → (ns = [] ∧ ∃ oa c, a.eval x = .slice oa 0 c) ∨ ∃ b k cap cur et fr, a.eval x = .slice (some ⟨b, k, none⟩) ns.length cap ∧ w.heap[b]? = some (.cells cur et fr) ∧
      ∃ G, RelL w G (ns.map byteA) ((cur.toList.drop k).take ns.length) []) : VOK P o S (.sc (.string (mkS ns))) := by
  intro E G gs a w hi
  have hu := elemT_inv hs
  have hu2 : P.underlying e = some (.int .u8) := by
    unfold kindT at hk
    split at hk
    · rename_i hh; cases hk; exact hh
    · simp at hk
  have hu3 : P.underlying dst = some .string := by
    unfold isStrT at hd
    split at hd
    · assumption
    · simp at hd
  rcases hx E G gs a w hi with ⟨rfl, oa, c, hv⟩ | ⟨b, k, cap, cur, et, fr, hv, hh, G', hrel⟩
  · refine ⟨.string (mkS []), fun w' hw' => ?_, .of (.sc rfl)⟩
    simp only [execOp, ho, hv, Sem.run_bind, run_convert_bytes_string w' src dst e oa 0 c hu hu2 hu3]
    cases oa <;> (simp [Conv.bytesToString, loadCells, loadCellsFrom]; rfl)
  · refine ⟨.string (mkS ns), fun w' hw' => ?_, .of (.sc rfl)⟩
    have hcs := bytes_vals hrel
    have hl := hrel.length
    rw [List.length_map] at hl
    have hload : (loadCells ⟨b, k, none⟩ ns.length).run P w' = .ok ((ns.map fun c : UInt8 => (c.toNat : Int)).map (Value.int .u8)).toArray w' := by
      rw [← hcs]
      generalize hcc : (cur.toList.drop k).take ns.length = cc at hl
      rw [← hl]
      refine run_loadCells_list w' _ _ fun j v hj => ?_
      rw [← hcc] at hj hl
      rw [add_none, cell_at (keep_at hw' hh)]
      have hjl := (List.getElem?_eq_some_iff.1 hj).1
      rw [hl] at hjl
      rw [List.getElem?_take_of_lt hjl, List.getElem?_drop] at hj
      simpa using hj
    simp only [execOp, ho, hv, Sem.run_bind, run_convert_bytes_string w' src dst e _ _ cap hu hu2 hu3, run_bytesToString w' _ _ cap _ hload, push_fold]
    simp
    rfl
theorem VOK_bytesStr_vw {src dst e : TypeId} {x : Operand} {ns : List UInt8} {r off len : Nat} {row : Row} (ho : o.op = .convert src dst x) (hs : elemT P src = some e) (hk : kindT P e = some .u8) (hd : isStrT P dst = true)
    (he : ev S x = .vw r off len) (hr : rowAt S.rows r = some row) (hn : row.n = 1) (hl : off + len ≤ row.xs.length) (hns : (row.xs.drop off).take len = ns.map byteA) : VOK P o S (.sc (.string (mkS ns))) := by
  refine VOK_bytesStr ho hs hk hd fun E G gs a w hi => ?_
  have h1 := ev_rel hi x rfl
  rw [he] at h1
  have hlen : ns.length = len := by
    have := congrArg List.length hns
    simp at this; omega
  rcases vw_inv h1 with ⟨row', k, cap, cur, et, b, hr', hob, g1, g2, g3, g4, g5, g6, hv⟩ | ⟨row', hr', hob, hx0, rfl, rfl, hv⟩
  · rw [hr] at hr'
    obtain rfl := Option.some.inj hr'
    rw [← hlen] at hv
    have hrr := hi.row r row hr
    rw [hob] at hrr
    obtain ⟨cur', e', cap', h1, h2, h3, h4, h5, h6, h7⟩ := hrr.ex
    rw [g2] at h1
    simp only [Option.some.injEq, Obj.cells.injEq] at h1
    obtain ⟨rfl, rfl, _⟩ := h1
    have hz : ∀ {F : List Nat}, (CellsRel row.lk w G S.rows gs (flat row.xs) (cur.toList.take (row.xs.length * row.n)) F) → RelL w G (ns.map byteA) ((cur.toList.drop (off * row.n)).take ns.length) [] := fun {F} h7 => by
      obtain ⟨F1, F2, e1, _, k2⟩ := h7.t.take_ (off * row.n)
      obtain ⟨F3, F4, e2, k3, _⟩ := k2.take_ (len * row.n)
      rw [flat_drop off h5, flat_take len (fun y hy => h5 y (List.mem_of_mem_drop hy)), hns, flat_bytes] at k3
      have hle : (off + len) * row.n ≤ row.xs.length * row.n := Nat.mul_le_mul_right _ g1
      rw [Nat.add_mul] at hle
      rw [List.drop_take, List.take_take, Nat.min_eq_left (by omega)] at k3
      have hd : (ns.map byteA).all isData = true := by
        rw [List.all_eq_true]; intro y hy; obtain ⟨c, _, rfl⟩ := List.mem_map.1 hy; exact isData_sc _
      have hno : (ns.map byteA).all noOwn = true := by
        rw [List.all_eq_true]; intro y hy; obtain ⟨c, _, rfl⟩ := List.mem_map.1 hy; exact noOwn_sc _
      have k4 := k3.data hd
      rw [k4.noOwn hno] at k4
      rw [hlen]
      rw [hn] at k4 ⊢
      simpa only [Nat.mul_one] using k4
    rcases g6 with g6 | g6
    · exact .inr ⟨b, k, cap - off, cur, _, _, hv, g2, G, by rw [g6]; exact hz h7⟩
    · have h0 : len = 0 := by omega
      subst h0
      have : ns = [] := List.eq_nil_of_length_eq_zero hlen
      subst this
      exact .inr ⟨b, k, cap - off, cur, _, _, hv, g2, G, by simpa using RelL.nil⟩
  · have : ns = [] := List.eq_nil_of_length_eq_zero hlen
    exact .inl ⟨this, none, 0, hv⟩
theorem VOK_bytesStr_sl {src dst e : TypeId} {x : Operand} {ns : List UInt8} {n : Nat} {xs : List A} (ho : o.op = .convert src dst x) (hs : elemT P src = some e) (hk : kindT P e = some .u8) (hd : isStrT P dst = true)
    (he : ev S x = .sl false n xs) (hn : n = 1) (hns : xs = ns.map byteA) : VOK P o S (.sc (.string (mkS ns))) := by
  refine VOK_bytesStr ho hs hk hd fun E G gs a w hi => ?_
  have h1 := ev_rel hi x rfl
  rw [he] at h1
  subst hn
  rcases slf_inv h1 with ⟨⟨oa, hv⟩, h0⟩ | ⟨b, k, cap, cur, et, fr, hv, hh, hg, hw, hrel, hcap, hm⟩
  · rw [hns] at h0
    exact .inl ⟨by simpa using h0, oa, 0, hv⟩
  · subst hns
    rw [List.length_map, Nat.mul_one, flat_bytes] at hrel
    rw [List.length_map] at hv
    exact .inr ⟨b, k, cap, cur, et, fr, hv, hh, G, hrel⟩
theorem relL_bytes {w : World} {G : Nat → Prop} : ∀ ns : List UInt8, RelL w G (ns.map byteA) (ns.map fun c : UInt8 => Value.int .u8 (c.toNat : Int)) []
  | [] => .nil
  | c :: ns => .cons (F := []) (Fs := []) (.sc rfl) (relL_bytes ns)
/-- []byte(s): new bytes, which nobody writes. -/
theorem opOK_strBytes {K : State → Prop} {src dst e : TypeId} {x : Operand} {s : ByteArray} (ho : o.op = .convert src dst x) (hs : isStrT P src = true) (hd : elemT P dst = some e) (hk : kindT P e = some .u8)
    (he : ev S x = .sc (.string s)) (hm : s.size ≤ maxLen) (hK : K (S.put o.dst (.sl false 1 ((bs s).map byteA)))) : opOK P o S K := by
  intro E a w next Q hss hn
  obtain ⟨hdf, G, gs, hi⟩ := hss
  have h1 := ev_rel hi x rfl
  rw [he] at h1
  have hv := (sc_inv h1).1
  have hu := elemT_inv hd
  have hu2 : P.underlying e = some (.int .u8) := by
    unfold kindT at hk
    split at hk
    · rename_i hh; cases hk; exact hh
    · simp at hk
  have hu3 : P.underlying src = some .string := by
    unfold isStrT at hs
    split at hs
    · assumption
    · simp at hs
  have hr : (execOp a.eval o).run P w = .ok (.value (.slice (some ⟨w.heap.size, 0, none⟩) s.size (grownCap w s.size 0 e))) (Lib.bytesWorld w e s) := by
    simp only [execOp, ho, hv, Sem.run_bind, Lib.run_convert_string_bytes w src dst e s hu3 hu hu2]
    rfl
  unfold Oper.wp
  rw [hr]
  have hb : Go.RowKit.Below w.heap.size w (Lib.bytesWorld w e s) := ⟨rfl, rfl, rfl, by rw [Lib.bytesWorld_size]; omega, fun k hk => Lib.bytesWorld_at_old w e s k hk⟩
  have hi' := hi.below hb (G' := fun b => G b ∨ b = w.heap.size) (fun b h => .inl h) (fun b h => by rcases h with h | h; exact .inl h; exact .inr (by omega))
    (fun b h => by rw [Lib.bytesWorld_size]; rcases h with h | h; (have := hi.glt b h; omega); omega)
  refine hn _ _ _ hK ⟨by rw [put_defers]; exact hdf, _, gs, Inv.put hi' (.of ?_) o.dst⟩
  have hlen : (bs s).length = s.size := by simp [bs]
  refine .ro (Lib.bytesWorld_at_new w e s) (.inr rfl) (by intro y hy; obtain ⟨c, _, rfl⟩ := List.mem_map.1 hy; rfl) (by rw [List.length_map, hlen]) rfl ?_ (grownCap_ge _ _ _ _) (grownCap_le_maxLen _ _ _ _ hm)
  rw [flat_bytes]
  have : ((Lib.bytesCells w e s).toList.drop 0).take (s.size * 1) = (bs s).map fun c : UInt8 => Value.int .u8 (c.toNat : Int) := by
    rw [List.drop_zero, Nat.mul_one]
    unfold Lib.bytesCells
    rw [Array.toList_append, List.take_append_of_le_length (by simp), List.take_of_length_le (by simp)]
    simp [bs]
  rw [this]
  exact relL_bytes _
end
end Go.Fw

/- Own slices taken out of own rows; rows made zero from a place on. Plain theorems, no condition. -/
set_option linter.unusedVariables false
set_option linter.unusedSimpArgs false
namespace Go.Fw
theorem newElem_cells' {x : A} {q : Nat} {ys : List A} (hs : q + ys.length ≤ x.width) (hn : 0 < ys.length) (hok : ∀ y ∈ ys, y.cells = [y]) : (newElem x q ys).cells = x.cells.take q ++ ys ++ x.cells.drop (q + ys.length) := by
  cases x with
  | agg xs => rfl
  | _ =>
    simp only [A.width, A.cells, List.length_singleton] at hs
    obtain rfl : q = 0 := by omega
    have h1 : ys.length = 1 := by omega
    match ys, h1 with
    | [y], _ =>
      show y.cells = _
      rw [hok y (by simp)]
      simp [A.cells]
section
variable {P : Program} {E : Env P} {G : Nat → Prop} {gs : Gh} {S : State} {w : World} {tmps : Array Value}
/-- Row r told otherwise: no write; it keeps its block, and gives up some of what it holds, or takes what is free. -/
theorem Inv.recast (hi : Inv E G gs S tmps w) {r : Nat} {row row' : Row} (hr : rowAt S.rows r = some row) (hn : row'.n = row.n) (hl : row'.xs.length = row.xs.length) {b : Nat} (hb : (gs r).1 = some b) {Fy F' R : List Nat}
    (hR : Res E G gs S.rows Fy) (hsub : ∀ c ∈ F' ++ R, c ∈ (gs r).2 ∨ c ∈ Fy) (hnd : (F' ++ R).Nodup) (hrel : RowRel w G S.rows gs row' (some b) F') :
    Inv E G (gs.add r (some b) F') (S.setRow r row') tmps w ∧ Res E G (gs.add r (some b) F') (S.setRow r row').rows R ∧
      ∀ x v, TRel w G S.rows gs x v [] → TRel w G (S.setRow r row').rows (gs.add r (some b) F') x v [] := by
  have hself : (gs.add r (some b) F') r = (some b, F') := by simp [Gh.add]
  have hgs : ∀ q, q ≠ r → (gs.add r (some b) F') q = gs q := fun q h => by simp [Gh.add, h]
  have hG : ∀ c, G c → G c ∧ w.heap[c]? = w.heap[c]? := fun c h => ⟨h, rfl⟩
  have hle : ∀ q, RowLe w w S.rows (S.setRow r row').rows gs (gs.add r (some b) F') q := fun q => ⟨fun row0 h0 => by
    by_cases hq : q = r
    · subst hq
      rw [hr] at h0
      obtain rfl := Option.some.inj h0
      exact ⟨row', by rw [rowAt_setRow hr, if_pos rfl], by rw [hself, hb], hn, hl, fun b' c' e' hb' hh' => ⟨c', e', hh', rfl⟩⟩
    · exact ⟨row0, by rw [rowAt_setRow hr, if_neg hq]; exact h0, by rw [hgs q hq], rfl, rfl, fun b' c' e' hb' hh' => ⟨c', e', hh', rfl⟩⟩, fun row0 h0 hn => by
    by_cases hq : q = r
    · subst hq; rw [hb] at hn; cases hn
    · exact hgs q hq⟩
  have hcase : ∀ q row0, rowAt (S.setRow r row').rows q = some row0 → (q = r ∧ row0 = row') ∨ (q ≠ r ∧ rowAt S.rows q = some row0) := fun q row0 h => by
    rw [rowAt_setRow hr] at h
    split at h
    · rename_i hh; exact .inl ⟨hh, (Option.some.inj h).symm⟩
    · rename_i hh; exact .inr ⟨hh, h⟩
  have hall : ∀ q, q ≠ r → (gs.add r (some b) F').all q = gs.all q := fun q h => by simp only [Gh.all, hgs q h]
  have hall0 : (gs.add r (some b) F').all r = b :: F' := by simp [Gh.all, hself]
  have hallr : gs.all r = b :: (gs r).2 := by simp [Gh.all, hb]
  have hin : ∀ c, c ∈ F' ++ R → c ∈ gs.all r ∨ c ∈ Fy := fun c hc => by
    rw [hallr]
    rcases hsub c hc with h | h
    · exact .inl (by simp [h])
    · exact .inr h
  have hnb : b ∉ F' ++ R := fun hc => by
    have hnod := hi.nod r row hr
    rw [hallr] at hnod
    rcases hsub b hc with h | h
    · exact (List.nodup_cons.1 hnod).1 h
    · exact hR.dis r row hr b (by rw [hallr]; simp) h
  rw [List.nodup_append] at hnd
  obtain ⟨n1, n2, n3⟩ := hnd
  have hown : ∀ c, c ∈ gs.all r ∨ c ∈ Fy → ¬ G c ∧ (E.Fin c ∨ E.w0.heap.size ≤ c) := fun c h => h.elim (hi.own r row hr c) (hR.own c)
  have hdis : ∀ q row0, q ≠ r → rowAt S.rows q = some row0 → ∀ c ∈ gs.all q, ¬ (c ∈ gs.all r ∨ c ∈ Fy) := fun q row0 hq h0 c hc h => by
    rcases h with h | h
    · exact hi.dis q r row0 row h0 hr hq c hc h
    · exact hR.dis q row0 h0 c hc h
  have h0 : ∀ c ∈ b :: F', c ∈ gs.all r ∨ c ∈ Fy := fun c hc => by
    rcases List.mem_cons.1 hc with rfl | hc
    · exact .inl (by rw [hallr]; simp)
    · exact hin c (by simp [hc])
  refine ⟨⟨hi.keep, hi.os, hi.tape, hi.output, hi.size, hi.sz, hi.gsub, hi.gnew, hi.glt, fun q row0 hq => ?_, fun q row0 hq => ?_, fun q row0 hq => ?_, fun q1 q2 row1 row2 h1 h2 hne => ?_, fun i => (hi.tmp i).step hG hle (by simp)⟩,
    ⟨n2, fun c hc => hown c (hin c (by simp [hc])), fun q row0 hq c hc hcR => ?_⟩, fun x v h => h.step hG hle (by simp)⟩
  · rcases hcase q row0 hq with ⟨rfl, rfl⟩ | ⟨hne, h⟩
    · rw [hself]; exact hrel.step hG hle (fun _ _ => rfl)
    · rw [hgs q hne]; exact (hi.row q row0 h).step hG hle (fun _ _ => rfl)
  · rcases hcase q row0 hq with ⟨rfl, rfl⟩ | ⟨hne, h⟩
    · rw [hall0]; exact List.nodup_cons.2 ⟨fun h => hnb (by simp [h]), n1⟩
    · rw [hall q hne]; exact hi.nod q row0 h
  · rcases hcase q row0 hq with ⟨rfl, rfl⟩ | ⟨hne, h⟩
    · rw [hall0]; exact fun c hc => hown c (h0 c hc)
    · rw [hall q hne]; exact hi.own q row0 h
  · rcases hcase q1 row1 h1 with ⟨rfl, rfl⟩ | ⟨m1, g1⟩ <;> rcases hcase q2 row2 h2 with ⟨rfl, rfl⟩ | ⟨m2, g2⟩
    · exact absurd rfl hne
    · rw [hall0, hall q2 m2]
      exact fun c hc hc2 => hdis q2 row2 m2 g2 c hc2 (h0 c hc)
    · rw [hall0, hall q1 m1]
      exact fun c hc hc2 => hdis q1 row1 m1 g1 c hc (h0 c hc2)
    · rw [hall q1 m1, hall q2 m2]; exact hi.dis q1 q2 row1 row2 g1 g2 hne
  · rcases hcase q row0 hq with ⟨rfl, rfl⟩ | ⟨hne, h⟩
    · rw [hall0] at hc
      rcases List.mem_cons.1 hc with rfl | hc
      · exact hnb (by simp [hcR])
      · exact n3 c hc c hcR rfl
    · rw [hall q hne] at hc
      exact hdis q row0 hne h c hc (hin c (by simp [hcR]))

/-- One cell of a row of data: what it holds is taken out of it. -/
theorem Inv.takeCell (hi : Inv E G gs S tmps w) {r j q : Nat} {row : Row} {y z : A} (hr : rowAt S.rows r = some row) (hlk : row.lk = false) (hy : row.xs[j]? = some y) (hz : y.cells[q]? = some z) (hg : row.lk = true ∨ ∃ b0, (gs r).1 = some b0) :
    ∃ b cur e v F1 Fz F3, (gs r).1 = some b ∧ w.heap[b]? = some (.cells cur e (0, 0)) ∧ cur[j * row.n + q]? = some v ∧ Rel w G z v Fz ∧ (gs r).2 = F1 ++ (Fz ++ F3) ∧
      Inv E G (gs.add r (some b) (F1 ++ F3)) (S.setRow r ⟨row.n, row.xs.set j (newElem y q [.un]), false⟩) tmps w ∧
        Res E G (gs.add r (some b) (F1 ++ F3)) (S.setRow r ⟨row.n, row.xs.set j (newElem y q [.un]), false⟩).rows Fz := by
  have hj : j < row.xs.length := (List.getElem?_eq_some_iff.1 hy).1
  obtain ⟨b, hb, hrc⟩ := row_real hi hr (by omega) hg
  obtain ⟨cur, e, cap, h1, h2, h3, h4, h5, h6, h7⟩ := hrc.ex
  have hyw := h5 y (List.mem_of_getElem? hy)
  have hq : q < y.cells.length := (List.getElem?_eq_some_iff.1 hz).1
  unfold A.width at hyw
  have hle : (j + 1) * row.n ≤ row.xs.length * row.n := Nat.mul_le_mul_right _ hj
  rw [Nat.add_mul] at hle
  have hle2 : row.xs.length * row.n ≤ cap * row.n := Nat.mul_le_mul_right _ h3.le
  unfold CellsRel at h7
  rw [if_neg (by simp [hlk])] at h7
  obtain ⟨F1, F4, e1, k1, k2⟩ := h7.take_ (j * row.n + q)
  obtain ⟨Fz, F3, e2, k3, k4⟩ := k2.take_ 1
  rw [List.drop_drop] at k4
  have hseg := flat_seg h5 hy q 1 (by omega)
  have hseg2 : (y.cells.drop q).take 1 = [z] := by
    rw [List.drop_eq_getElem_cons hq]
    rw [List.getElem?_eq_getElem hq] at hz
    simp only [Option.some.injEq] at hz
    simp [hz]
  rw [hseg, hseg2] at k3
  obtain ⟨v, hv⟩ : ∃ v, cur[j * row.n + q]? = some v := ⟨_, Array.getElem?_eq_getElem (by omega)⟩
  have hvs : ((cur.toList.take (row.xs.length * row.n)).drop (j * row.n + q)).take 1 = [v] := by
    rw [List.drop_take, List.take_take, Nat.min_eq_left (by omega)]
    obtain ⟨hv1, hv2⟩ := Array.getElem?_eq_some_iff.1 hv
    rw [List.drop_eq_getElem_cons (by simpa using hv1)]
    simp [hv2]
  rw [hvs] at k3
  have hzv : Rel w G z v Fz := by
    generalize hu : [v] = us at k3
    cases k3 with
    | cons a c =>
      cases c
      cases hu
      simpa using a
  have hcv : cellV v = true := h6 v (by
    have : v ∈ ((cur.toList.take (row.xs.length * row.n)).drop (j * row.n + q)).take 1 := by rw [hvs]; simp
    exact List.mem_of_mem_drop (List.mem_of_mem_take this))
  subst e2
  have hcl := newElem_cells' (x := y) (q := q) (ys := [A.un]) (by unfold A.width; simp; omega) (by simp) (by simp [A.cells])
  have hflat := flat_set h5 hy (q := q) (ys := [A.un]) (by simp; omega) hcl
  have hnod := hi.nod r row hr
  rw [show gs.all r = b :: (F1 ++ (Fz ++ F3)) by simp [Gh.all, hb, e1]] at hnod
  have hnd := (List.nodup_cons.1 hnod).2
  obtain ⟨g1, g2, _⟩ := hi.recast (Fy := []) (row' := ⟨row.n, row.xs.set j (newElem y q [.un]), false⟩) hr rfl List.length_set hb Res.nil (R := Fz) (F' := F1 ++ F3) (fun c hc => by
    rw [e1]
    simp only [List.mem_append] at hc ⊢
    rcases hc with (h | h) | h
    · exact .inl (.inl h)
    · exact .inl (.inr (.inr h))
    · exact .inl (.inr (.inl h))) (by
    rw [List.nodup_append] at hnd ⊢
    obtain ⟨m1, m2, m3⟩ := hnd
    rw [List.nodup_append] at m2
    obtain ⟨m4, m5, m6⟩ := m2
    refine ⟨List.nodup_append.2 ⟨m1, m5, fun a ha c hc h => m3 a ha c (by simp [hc]) h⟩, m4, fun a ha c hc h => ?_⟩
    subst h
    rcases List.mem_append.1 ha with ha | ha
    · exact m3 a ha a (by simp [hc]) rfl
    · exact m6 a hc a ha rfl) (by
    refine ⟨cur, e, cap, h1, h2, by simpa using h3.le, h4, ?_, ?_, ?_⟩
    · intro u hu
      rcases List.mem_or_eq_of_mem_set hu with hu | rfl
      · exact h5 u hu
      · show (newElem y q [.un]).cells.length = row.n
        rw [hcl]; simp; omega
    · simpa using h6
    · show CellsRel false w G S.rows gs (flat (row.xs.set j (newElem y q [.un]))) (cur.toList.take ((row.xs.set j (newElem y q [.un])).length * row.n)) (F1 ++ F3)
      unfold CellsRel
      rw [if_neg (by simp), List.length_set, hflat]
      generalize cur.toList.take (row.xs.length * row.n) = l at hvs k1 k4
      generalize j * row.n + q = p at hvs k1 k4
      have hs1 : l.drop p = [v] ++ (l.drop p).drop 1 := by rw [← hvs, List.take_append_drop]
      have hs2 : l = l.take p ++ ([v] ++ (l.drop p).drop 1) := by rw [← hs1, List.take_append_drop]
      rw [List.append_assoc]
      have := k1.append ((RelL.cons (Rel.un hcv) .nil).append k4)
      rw [← hs2] at this
      simpa using this)
  exact ⟨b, cur, e, v, F1, Fz, F3, hb, h1, hv, hzv, e1, g1, g2⟩
/-- A load of an own slice in an own row: it is a row of its own then, and the cell is not known any more. -/
theorem opOK_take {o : Oper} {K : State → Prop} {t : TypeId} {x : Operand} {r j q n : Nat} {row : Row} {y : A} {ys : List A} (ho : o.op = .load t x) (he : ev S x = .pt r j q) (hr : rowAt S.rows r = some row) (hlk : row.lk = false)
    (hy : row.xs[j]? = some y) (ha : aggT P t = some false) (hz : y.cells[q]? = some (.sl true n ys))
    (hK : K (((S.setRow r ⟨row.n, row.xs.set j (newElem y q [.un]), false⟩).addRow ⟨n, ys, false⟩).put o.dst (.vw S.rows.length 0 ys.length))) : opOK P o S K := by
  intro E a w next Q hs hn
  obtain ⟨hd, G, gs, hi⟩ := hs
  have hx := ev_rel hi x rfl
  rw [he] at hx
  obtain ⟨row', b', hr', hb', hv'⟩ := pt_inv hx
  rw [hr] at hr'
  obtain rfl := Option.some.inj hr'
  obtain ⟨b, cur, e, v, F1, Fz, F3, hb, hh, hv, hrel, hF, hi1, hR1⟩ := hi.takeCell hr hlk hy hz (.inr ⟨_, hb'⟩)
  rw [hb] at hb'
  obtain rfl := Option.some.inj hb'
  have hrun : (execOp a.eval o).run P w = .ok (.value v) w := by simp [execOp, ho, Instr.loadAt, hv', Instr.sureAddr, run_loadVar_cell ha hh hv]
  have hrl : r < S.rows.length := rowAt_lt hr
  have hl1 : (S.setRow r ⟨row.n, row.xs.set j (newElem y q [.un]), false⟩).rows.length = S.rows.length := by simp [State.setRow]
  have hstep : ∃ gs2, Inv E G gs2 ((S.setRow r ⟨row.n, row.xs.set j (newElem y q [.un]), false⟩).addRow ⟨n, ys, false⟩) a.tmps w ∧
      TRel w G ((S.setRow r ⟨row.n, row.xs.set j (newElem y q [.un]), false⟩).addRow ⟨n, ys, false⟩).rows gs2 (.vw S.rows.length 0 ys.length) v [] := by
    have hrow : rowAt ((S.setRow r ⟨row.n, row.xs.set j (newElem y q [.un]), false⟩).addRow ⟨n, ys, false⟩).rows S.rows.length = some ⟨n, ys, false⟩ := by
      show rowAt ((S.setRow r ⟨row.n, row.xs.set j (newElem y q [.un]), false⟩).rows ++ [some ⟨n, ys, false⟩]) S.rows.length = _
      rw [rowAt_push, if_pos hl1.symm]
    have hself : ∀ ob F, ((gs.add r (some b) (F1 ++ F3)).add (S.setRow r ⟨row.n, row.xs.set j (newElem y q [.un]), false⟩).rows.length ob F) S.rows.length = (ob, F) := fun ob F => by
      simp [Gh.add, hl1]
    have hlt : ∀ c ∈ Fz ++ [], c < w.heap.size := fun c hc => hrel.lt c (by simpa using hc)
    have hR1' : Res E G (gs.add r (some b) (F1 ++ F3)) (S.setRow r ⟨row.n, row.xs.set j (newElem y q [.un]), false⟩).rows (Fz ++ []) := by rw [List.append_nil]; exact hR1
    cases hrel with
    | nils =>
      have := adopt_res (ob := none) (F := []) hi1 hR1' hlt rfl (row := ⟨n, [], false⟩) (fun _ _ => .inl ⟨rfl, rfl⟩)
      exact ⟨_, this.inv, .vwn hrow (by rw [hself]) rfl⟩
    | ow hh2 hw hlen hc hl hcap hm hs hv0 =>
      rename_i b2 len cap cur2 e2 cs F
      subst hlen
      subst hc
      have := adopt_res (ob := some b2) (F := F) hi1 hR1' hlt rfl (row := ⟨n, ys, false⟩) (fun rows' gs' => ⟨cur2, e2, cap, hh2, hs, .of hcap, hm, hw, hv0, hl⟩)
      refine ⟨_, this.inv, ?_⟩
      have hv := TRel.vw (w := w) (G := G) (gs := (gs.add r (some b) (F1 ++ F3)).add (S.setRow r ⟨row.n, row.xs.set j (newElem y q [.un]), false⟩).rows.length (some b2) F) (off := 0) (len := ys.length) (k := 0) hrow (by rw [hself]) (by simp) hh2 hs hm hcap (.inl (by simp))
      simpa using hv
  obtain ⟨gs2, hi2, hvw⟩ := hstep
  unfold Oper.wp
  rw [hrun]
  exact hn _ _ _ hK ⟨by rw [put_defers]; exact hd, G, _, hi2.put hvw o.dst⟩
def isAggB : A → Bool
  | .agg _ => true
  | _ => false
def isAggV : Value → Bool
  | .agg _ => true
  | _ => false
theorem setRow_same {r : Nat} {row : Row} (hr : rowAt S.rows r = some row) : S.setRow r row = S := by
  unfold State.setRow
  have hl := rowAt_lt hr
  have : S.rows[r]? = some (some row) := by
    unfold rowAt at hr
    cases h : S.rows[r]? with
    | none => rw [h] at hr; simp at hr
    | some x => rw [h] at hr; simp only [Option.getD_some] at hr; rw [hr]
  have e : S.rows.set r (some row) = S.rows := by
    apply List.ext_getElem?
    intro i
    by_cases hi : i = r
    · subst hi; rw [List.getElem?_set_self hl, this]
    · rw [List.getElem?_set_ne (Ne.symm hi)]
  rw [e]
/-- The last m elements of a row become z. -/
theorem Inv.fill1 (hi : Inv E G gs S tmps w) {r : Nat} {row : Row} (hr : rowAt S.rows r = some row) (hlk : row.lk = false) (hn : row.n = 1) {b : Nat} (hb : (gs r).1 = some b) {z : A} {v : Value} (hz : ∀ w G, Rel w G z v []) (hzc : okCell z = true)
    {cur : Array Value} {e : TypeId} (hcur : w.heap[b]? = some (.cells cur e (0, 0))) (hsz : row.xs.length ≤ cur.size) (hna : ∀ y ∈ row.xs, isAggB y = false) :
    ∀ (m off : Nat), off + m = row.xs.length → ∃ F', Inv E G (gs.add r (some b) F') (S.setRow r { row with xs := row.xs.take off ++ List.replicate m z }) tmps
      (w.setRow b (cur.toList.take off ++ List.replicate m v ++ cur.toList.drop (off + m)).toArray)
  | 0, off, h => by
    refine ⟨(gs r).2, ?_⟩
    have e1 : ({ row with xs := row.xs.take off ++ List.replicate 0 z } : Row) = row := by
      have : row.xs.take off = row.xs := List.take_of_length_le (by omega)
      simp [this]
    rw [e1, setRow_same hr, ← hb, Gh.add_self]
    simp only [List.replicate_zero, List.append_nil, Nat.add_zero, List.take_append_drop, Array.toArray_toList]
    rw [setRow_self w b cur e (0, 0) hcur]
    exact hi
  | m + 1, off, h => by
    obtain ⟨F1, h1⟩ := Inv.fill1 hi hr hlk hn hb hz hzc hcur hsz hna m (off + 1) (by omega)
    generalize hrow1 : ({ row with xs := row.xs.take (off + 1) ++ List.replicate m z } : Row) = row1 at h1
    have hr1 : rowAt (S.setRow r row1).rows r = some row1 := by rw [rowAt_setRow hr, if_pos rfl]
    have hx1 : row1.xs = row.xs.take (off + 1) ++ List.replicate m z := by rw [← hrow1]
    have hn1 : row1.n = 1 := by rw [← hrow1]; exact hn
    have hlk1 : row1.lk = false := by rw [← hrow1]; exact hlk
    have hoff : off < row.xs.length := by omega
    have hy : row1.xs[off]? = some row.xs[off] := by
      rw [hx1, List.getElem?_append_left (by simp; omega), List.getElem?_take_of_lt (by omega), List.getElem?_eq_getElem hoff]
    obtain ⟨b2, cur2, e2, F2, g1, g2, g3, g4⟩ := h1.store (Fy := []) (ys := [z]) (vs := [v]) (q := 0) Res.nil (by simp) hr1 hy (by rw [hn1]; simp) (by simp)
      (by unfold CellsRel; rw [if_neg (by simp [hlk1])]; exact .cons (F := []) (Fs := []) (hz _ _) .nil) (by simpa using hzc) (.inr ⟨b, by simp [Gh.add]⟩)
    have hb2 : b2 = b := by simp [Gh.add] at g1; exact g1.symm
    subst hb2
    have hc2 := setRow_heap w b2 cur (cur.toList.take (off + 1) ++ List.replicate m v ++ cur.toList.drop (off + 1 + m)).toArray e _ hcur
    rw [g2] at hc2
    simp only [Option.some.injEq, Obj.cells.injEq] at hc2
    obtain ⟨hc2, _⟩ := hc2
    have hne : newElem row.xs[off] 0 [z] = z := by
      have := hna row.xs[off] (List.getElem_mem hoff)
      revert this
      generalize row.xs[off] = u
      intro this
      cases u <;> first | rfl | (simp [isAggB] at this)
    have hset : ({ row1 with xs := row1.xs.set off (newElem row.xs[off] 0 [z]) } : Row) = { row with xs := row.xs.take off ++ List.replicate (m + 1) z } := by
      rw [hne, ← hrow1]
      simp only [Row.mk.injEq, true_and, and_true]
      apply List.ext_getElem?
      intro i
      by_cases hi : i = off
      · subst hi
        rw [List.getElem?_set_self (by simp; omega), List.getElem?_append_right (by simp; omega)]
        simp [Nat.min_eq_left (Nat.le_of_lt hoff), List.getElem?_replicate]
      · rw [List.getElem?_set_ne (Ne.symm hi)]
        rcases Nat.lt_or_ge i off with h | h
        · rw [List.getElem?_append_left (by simp; omega), List.getElem?_append_left (by simp; omega), List.getElem?_take_of_lt (by omega), List.getElem?_take_of_lt (by omega)]
        · rw [List.getElem?_append_right (by simp; omega), List.getElem?_append_right (by simp; omega)]
          simp only [List.getElem?_replicate, List.length_take, Nat.min_eq_left (by omega : off + 1 ≤ row.xs.length), Nat.min_eq_left (by omega : off ≤ row.xs.length)]
          by_cases h2 : i - (off + 1) < m
          · rw [if_pos h2, if_pos (by omega)]
          · rw [if_neg h2, if_neg (by omega)]
    have hgs : (gs.add r (some b2) F1).add r (some b2) F2 = gs.add r (some b2) F2 := by
      funext i; simp only [Gh.add]; split <;> rfl
    have hst : (S.setRow r row1).setRow r { row1 with xs := row1.xs.set off (newElem row.xs[off] 0 [z]) } = S.setRow r { row with xs := row.xs.take off ++ List.replicate (m + 1) z } := by
      rw [hset]; simp [State.setRow, List.set_set]
    refine ⟨F2, ?_⟩
    rw [hst, hgs, setRow_setRow] at g4
    have hw : (cur2.toList.take (off * row1.n + 0) ++ [v] ++ cur2.toList.drop (off * row1.n + 0 + [v].length)) = cur.toList.take off ++ List.replicate (m + 1) v ++ cur.toList.drop (off + (m + 1)) := by
      rw [hn1, hc2]
      simp only [Nat.mul_one, Nat.add_zero, List.length_singleton]
      have hl : off < cur.toList.length := by simp; omega
      have t1 : (cur.toList.take (off + 1) ++ List.replicate m v ++ cur.toList.drop (off + 1 + m)).take off = cur.toList.take off := by
        rw [List.append_assoc, List.take_append_of_le_length (by simp; omega), List.take_take, Nat.min_eq_left (by omega)]
      have t2 : (cur.toList.take (off + 1) ++ List.replicate m v ++ cur.toList.drop (off + 1 + m)).drop (off + 1) = List.replicate m v ++ cur.toList.drop (off + 1 + m) := by
        have hl1 : (cur.toList.take (off + 1)).length = off + 1 := by simp; omega
        rw [List.append_assoc]
        exact List.drop_left' hl1
      rw [t1, t2, List.replicate_succ, show off + (m + 1) = off + 1 + m by omega]
      simp
    rw [hw] at g4
    exact g4
theorem zeroCells_one (v : Value) (n : Nat) : (Builtin.zeroCells #[v] n).toList = List.replicate n v := by
  unfold Builtin.zeroCells
  apply List.ext_getElem?
  intro i
  simp [List.getElem?_replicate]
  by_cases h : i < n
  · rw [if_pos h, List.getElem?_range h]; simp [Nat.mod_one]
  · rw [if_neg h, List.getElem?_eq_none (by simp; omega)]; rfl
theorem opOK_clear {o : Oper} {K : State → Prop} {t e : TypeId} {x : Operand} {r off len : Nat} {row : Row} {z : Value} (ho : o.op = .call { callee := .builtin .clear, args := [x].toArray, argTypes := [t].toArray }) (he : ev S x = .vw r off len) (hr : rowAt S.rows r = some row)
    (hlk : row.lk = false) (hn : row.n = 1) (hl : off + len = row.xs.length) (hna : ∀ y ∈ row.xs, isAggB y = false) (ht : elemT P t = some e) (hz : zeroT P e = some z) (hzv : okV z = true) (hza : isAggV z = false)
    (hK : K ((S.setRow r ⟨row.n, row.xs.take off ++ List.replicate len (cellA z), false⟩).put o.dst (.tup []))) : opOK P o S K := by
  intro E a w next Q hs hn'
  obtain ⟨hd, G, gs, hi⟩ := hs
  have hx := ev_rel hi x rfl
  rw [he] at hx
  have hu := elemT_inv ht
  have hzc : z.cells = #[z] := by cases z <;> first | rfl | (simp [isAggV] at hza)
  have hcz : cellV z = true := by cases z <;> first | rfl | (simp [isAggV] at hza; done) | (simp [okV] at hzv; done)
  have hrow : (⟨row.n, row.xs.take off ++ List.replicate len (cellA z), false⟩ : Row) = { row with xs := row.xs.take off ++ List.replicate len (cellA z) } := by cases row; simp at hlk; subst hlk; rfl
  have htup : ∀ (w : World) rows gs, TRel w G rows gs (.tup []) (.tuple #[]) [] := fun w rows gs => TRel.tup (cs := []) .nil
  have hokz : okCell (cellA z) = true := by unfold cellA; split <;> rfl
  rcases vw_inv hx with ⟨row', k, cap, cur, et, b, hr', hob, g1, g2, g3, g4, g5, g6, hv⟩ | ⟨row', hr', hob, hx0, ho0, hlen, hv⟩
  · rw [hr] at hr'
    obtain rfl := Option.some.inj hr'
    rw [hn, Nat.mul_one] at g3 g6
    obtain ⟨F', hi2⟩ := hi.fill1 hr hlk hn hob (fun w G => rel_cellA hcz) hokz g2 (by omega) hna len off hl
    have hrun : (execOp a.eval o).run P w = .ok (.value (.tuple #[])) (w.setRow b (cur.toList.take off ++ List.replicate len z ++ cur.toList.drop (off + len)).toArray) := by
      rcases Nat.eq_zero_or_pos len with h0 | h0
      · subst h0
        simp only [List.replicate_zero, List.append_nil, Nat.add_zero, List.take_append_drop, Array.toArray_toList]
        rw [setRow_self w b cur et (0, 0) g2]
        simp [execOp, ho, resolve, invoke, builtin, hv, Builtin.clear_, run_underlying hu]
      · have hk : k = off := by rcases g6 with g | g <;> omega
        subst hk
        obtain ⟨l', rfl⟩ : ∃ l', len = l' + 1 := ⟨len - 1, by omega⟩
        have hst := run_storeCells_at P b k et (List.replicate (l' + 1) z) 0 cur w g2 (by simp; omega) (by intro v hv; rw [(List.mem_replicate.1 hv).2]; exact hcz)
        simp only [Nat.add_zero, List.length_replicate] at hst
        have hzr := run_zero hz w
        have hzl : (Builtin.zeroCells z.cells (l' + 1)).toList = List.replicate (l' + 1) z := by rw [hzc, zeroCells_one]
        simp [execOp, ho, resolve, invoke, builtin, hv, Builtin.clear_, run_underlying hu, hzr, hzl, hst]
    unfold Oper.wp
    rw [hrun]
    rw [hrow] at hK
    exact hn' _ _ _ hK ⟨by rw [put_defers]; exact hd, G, _, Inv.put (S := S.setRow r _) hi2 (htup _ _ _) o.dst⟩
  · rw [hr] at hr'
    obtain rfl := Option.some.inj hr'
    subst ho0
    subst hlen
    have hsame : (⟨row.n, row.xs.take 0 ++ List.replicate 0 (cellA z), false⟩ : Row) = row := by cases row; simp at hlk hx0; subst hlk; subst hx0; rfl
    rw [hsame, setRow_same hr] at hK
    have hrun : (execOp a.eval o).run P w = .ok (.value (.tuple #[])) w := by
      simp [execOp, ho, resolve, invoke, builtin, hv, Builtin.clear_, run_underlying hu]
    unfold Oper.wp
    rw [hrun]
    exact hn' _ _ _ hK ⟨by rw [put_defers]; exact hd, G, gs, hi.put (htup _ _ _) o.dst⟩
end
end Go.Fw

/- What must hold ahead of a code, reckoned step by step: definitions. No theorem of the program. -/
set_option linter.unusedVariables false
set_option linter.unusedSimpArgs false
namespace Go.Fw

/-- What is known of a type. -/
structure TI where
  sz : Nat
  bytes : Nat
  el : Option Nat
  ag : Bool
  str : Bool
  bool : Bool
  fs : List (Nat × Nat × Bool)
  z : Option Value
  kind : Option IntKind
  ar : Option (Nat × Nat)
/-- An array type: how many elements, of how many cells. -/
def arT (P : Program) (t : TypeId) : Option (Nat × Nat) :=
  match P.underlying t with
  | some (.array n e) => (szT P e).map fun s => (n, s)
  | _ => none
def fsT (P : Program) (t : TypeId) : List (Nat × Nat × Bool) :=
  match P.underlying t with
  | some (.struct fs) => (List.range fs.size).map fun i => (fieldT P t i).getD (0, 0, false)
  | _ => []
def tiOf (P : Program) (t : TypeId) : Option TI :=
  match szT P t, aggT P t with
  | some s, some g =>
    if (List.range (fsT P t).length).all (fun i => (fieldT P t i).isSome) && ((fsT P t).isEmpty || placesT P t) then
      some ⟨s, bytesT P t, elemT P t, g, isStrT P t, isBoolT P t, fsT P t, (match zeroT P t with | some v => if okV v then some v else none | none => none), kindT P t, arT P t⟩
    else none
  | _, _ => none

/-- The reckoning on what is not known is kept shut. -/
structure Opq where
  ar : BinOp → IntKind → Int → Int → Int
  cmp : BinOp → Int → Int → Bool
  neg : IntKind → Int → Int
  cmpS : BinOp → List UInt8 → List UInt8 → Bool
  cmpB : BinOp → Bool → Bool → Bool
  cat : List UInt8 → List UInt8 → List UInt8
  not : Bool → Bool
  ite : Bool → Bool → Bool → Bool
  itA : Bool → A → A → A
  len : List A → Nat
  lenS : List UInt8 → Nat
  int : Nat → Int
  nat : Int → Nat
  plus : Nat → Nat → Nat
  minus : Nat → Nat → Nat
  seg : Nat → Nat → List A → List A
  segS : Nat → Nat → List UInt8 → List UInt8
  take : Nat → List A → List A
  app : List A → List A → List A
  rep : Nat → A → List A
  set : List A → Nat → A → List A
  frz : List A → List A
  u8 : UInt8 → Int
  wrap : IntKind → Int → Int
  cloN : Nat → Nat
  cloA : Nat → List A → List A → List A
  mx : Int → Int → Int
def arS (op : BinOp) (k : IntKind) (x y : Int) : Int :=
  match op with
  | .add => k.wrap (x + y)
  | .sub => k.wrap (x - y)
  | .mul => k.wrap (x * y)
  | .quo => k.wrap (x.tdiv y)
  | .rem => x.tmod y
  | .shl => k.wrap (x * 2 ^ y.toNat)
  | .shr => x / 2 ^ y.toNat
  | op => bits op k x y
def cmpIS (op : BinOp) (x y : Int) : Bool :=
  match op with
  | .eql => x == y
  | .neq => x != y
  | .lss => decide (x < y)
  | .leq => decide (x ≤ y)
  | .gtr => decide (x > y)
  | _ => decide (x ≥ y)
def cmpSS (op : BinOp) (x y : List UInt8) : Bool :=
  match op with
  | .eql => x == y
  | .neq => x != y
  | .lss => Op.bytesLess x y
  | .leq => Op.bytesLess x y || x == y
  | .gtr => !(Op.bytesLess x y || x == y)
  | _ => !(Op.bytesLess x y)
def std : Opq where
  ar := arS
  cmp := cmpIS
  neg := fun k n => k.wrap (0 - n)
  cmpS := cmpSS
  cmpB := fun op x y => match op with | .eql => x == y | _ => x != y
  cat := fun x y => x ++ y
  not := fun b => !b
  ite := fun b x y => if b then x else y
  itA := fun b x y => if b then x else y
  len := List.length
  lenS := List.length
  int := fun n => (n : Int)
  nat := Int.toNat
  plus := fun m n => m + n
  minus := fun m n => m - n
  seg := fun l h xs => (xs.take h).drop l
  segS := fun l h xs => (xs.take h).drop l
  take := fun n xs => xs.take n
  app := fun x y => x ++ y
  rep := List.replicate
  set := fun xs j x => xs.set j x
  frz := fun xs => xs.map Fw.frz
  u8 := fun c => (c.toNat : Int)
  wrap := fun k n => k.wrap n
  cloN := Fw.cloN
  cloA := Fw.cloA
  mx := fun a b => if b > a then b else a

/-- A thing to show; looked at by nobody else. -/
structure Ob (f : Unit → Prop) : Prop where
  h : f ()
/-- A loop, or any code that is taken by hand. -/
structure VCX (P : Program) (c : Code) (S : State) (K : Exit → State → Prop) : Prop where
  h : VC P c S K
structure CallX (P : Program) (g : Nat) (args : List A) (S : State) (K : A → State → Prop) : Prop where
  h : CallOK P g args S K
structure HardX (P : Program) (o : Oper) (S : State) (K : State → Prop) : Prop where
  h : opOK P o S K
def brB (p : Bool) (X Y : Unit → Prop) : Prop := match p with | true => X () | false => Y ()

def vPick (Ω : Opq) (c x y : A) (k : A → Prop) : Prop :=
  match c with
  | .sc (.bool b) => (match x, y with
    | .sc (.bool p), .sc (.bool q) => k (.sc (.bool (Ω.ite b p q)))
    | x, y => brB b (fun _ => k x) (fun _ => k y))
  | _ => False
def vUn (Ω : Opq) (op : UnOp) (x : A) (k : A → Prop) : Prop :=
  match op, x with
  | .not, .sc (.bool b) => k (.sc (.bool (Ω.not b)))
  | .neg, .sc (.int kk n) => k (.sc (.int kk (Ω.neg kk n)))
  | _, _ => False
def vBinI (Ω : Opq) (op : BinOp) (kk : IntKind) (a : Int) (kl : IntKind) (b : Int) (k : A → Prop) : Prop :=
  match op with
  | .shl => Ob (fun _ => 0 ≤ b ∧ b ≤ kk.bits) ∧ k (.sc (.int kk (Ω.ar .shl kk a b)))
  | .shr => Ob (fun _ => 0 ≤ b ∧ b ≤ kk.bits) ∧ k (.sc (.int kk (Ω.ar .shr kk a b)))
  | op => if kk = kl then (match op with
    | .add => k (.sc (.int kk (Ω.ar .add kk a b)))
    | .sub => k (.sc (.int kk (Ω.ar .sub kk a b)))
    | .mul => k (.sc (.int kk (Ω.ar .mul kk a b)))
    | .and => k (.sc (.int kk (Ω.ar .and kk a b)))
    | .or => k (.sc (.int kk (Ω.ar .or kk a b)))
    | .xor => k (.sc (.int kk (Ω.ar .xor kk a b)))
    | .andNot => k (.sc (.int kk (Ω.ar .andNot kk a b)))
    | .quo => Ob (fun _ => b ≠ 0) ∧ k (.sc (.int kk (Ω.ar .quo kk a b)))
    | .rem => Ob (fun _ => b ≠ 0) ∧ k (.sc (.int kk (Ω.ar .rem kk a b)))
    | op => k (.sc (.bool (Ω.cmp op a b)))) else False
def vBinS (Ω : Opq) (op : BinOp) (a b : List UInt8) (k : A → Prop) : Prop :=
  match op with
  | .add => Ob (fun _ => ((a.length + b.length : Nat) : Int) ≤ 9223372036854775807) ∧ k (.sc (.string (mkS (Ω.cat a b))))
  | .eql => k (.sc (.bool (Ω.cmpS .eql a b)))
  | .neq => k (.sc (.bool (Ω.cmpS .neq a b)))
  | .lss => k (.sc (.bool (Ω.cmpS .lss a b)))
  | .leq => k (.sc (.bool (Ω.cmpS .leq a b)))
  | .gtr => k (.sc (.bool (Ω.cmpS .gtr a b)))
  | .geq => k (.sc (.bool (Ω.cmpS .geq a b)))
  | _ => False
def vBin (Ω : Opq) (T : Nat → Option TI) (op : BinOp) (t : TypeId) (x y : A) (k : A → Prop) : Prop :=
  match x, y with
  | .sc (.int ka a), .sc (.int kb b) => vBinI Ω op ka a kb b k
  | .sc (.string a), .sc (.string b) => vBinS Ω op (bs a) (bs b) k
  | .sc (.bool a), .sc (.bool b) => (match T t, op with
    | some i, .eql => if i.bool then k (.sc (.bool (Ω.cmpB .eql a b))) else False
    | some i, .neq => if i.bool then k (.sc (.bool (Ω.cmpB .neq a b))) else False
    | _, _ => False)
  | _, _ => False
/-- Two structs. -/
structure EqX (P : Program) (op : BinOp) (t : TypeId) (xs ys : List A) (k : A → Prop) : Prop where
  h : ∃ (us vs : List Value) (b : Bool), xs = us.map A.sc ∧ ys = vs.map A.sc ∧ (∀ (x y : Operand) (w : World), (do eqGuard op t x y (.agg us.toArray) (.agg vs.toArray); binOp op t (.agg us.toArray) (.agg vs.toArray) : Sem Value).run P w = .ok (.bool b) w) ∧ k (.sc (.bool b))
def vBinA (Ω : Opq) (P : Program) (T : Nat → Option TI) (op : BinOp) (t : TypeId) (x y : A) (k : A → Prop) : Prop :=
  match x, y with
  | .agg xs, .agg ys => EqX P op t xs ys k
  | x, y => vBin Ω T op t x y k
def vBinN (Ω : Opq) (P : Program) (T : Nat → Option TI) (op : BinOp) (t : TypeId) (x y : A) (k : A → Prop) : Prop :=
  match x, y with
  | .sl false _ xs, .nil => (match T t, op with
    | some i, .eql => if i.el.isSome then ∀ b, (b = true → xs = []) → k (.sc (.bool b)) else False
    | some i, .neq => if i.el.isSome then ∀ b, (b = false → xs = []) → k (.sc (.bool b)) else False
    | _, _ => False)
  | x, y => vBinA Ω P T op t x y k
def vLen (Ω : Opq) (T : Nat → Option TI) (t : TypeId) (x : A) (k : A → Prop) : Prop :=
  match T t with
  | some i => (match x with
    | .nil => if i.el.isSome && !i.str then k (.sc (.int .i64 0)) else False
    | .sl false _ xs => if i.el.isSome && !i.str then k (.sc (.int .i64 (Ω.int (Ω.len xs)))) else False
    | .vw _ _ len => if i.el.isSome && !i.str then k (.sc (.int .i64 (Ω.int len))) else False
    | .sc (.string s) => if i.str then k (.sc (.int .i64 (Ω.int (Ω.lenS (bs s))))) else False
    | _ => False)
  | none => False
def vCell (i : TI) (n : Nat) (y : A) (q : Nat) (k : A → Prop) : Prop :=
  if i.ag then (if q + i.sz ≤ n then (if ((y.cells.drop q).take i.sz).all noOwn then k (.agg ((y.cells.drop q).take i.sz)) else False) else False)
  else match y.cells[q]? with
    | some z => if noOwn z then k z else False
    | none => False
def vCellS (Ω : Opq) (i : TI) (S : State) (r j : Nat) (row : Row) (y : A) (q : Nat) (k : A → State → Prop) : Prop :=
  if i.ag then (if q + i.sz ≤ row.n then (if ((y.cells.drop q).take i.sz).all noOwn then k (.agg ((y.cells.drop q).take i.sz)) S else False) else False)
  else match y.cells[q]? with
    | some (.sl true n ys) => k (.vw S.rows.length 0 (Ω.len ys)) ((S.setRow r ⟨row.n, Ω.set row.xs j (newElem y q [.un]), false⟩).addRow ⟨n, ys, false⟩)
    | some z => if noOwn z then k z S else False
    | none => False
def vLoad (T : Nat → Option TI) (t : TypeId) (S : State) (x : A) (k : A → Prop) : Prop :=
  match T t with
  | some i => (match x with
    | .rp xs => if i.ag then (if i.sz ≤ xs.length then k (.agg (xs.take i.sz)) else False) else (match xs[0]? with
      | some z => k z
      | none => False)
    | .pt r j q => (match rowAt S.rows r with
      | some row => (match row.lk with
        | true => (match row.xs[j]? with
          | some y => vCell i row.n y q k
          | none => False)
        | false => ∃ y, row.xs[j]? = some y ∧ vCell i row.n y q k)
      | none => False)
    | _ => False)
  | none => False
/-- A load; an own slice in an own row of data is taken out of it. -/
def vLoadS (Ω : Opq) (T : Nat → Option TI) (t : TypeId) (S : State) (x : A) (k : A → State → Prop) : Prop :=
  match T t with
  | some i => (match x with
    | .rp xs => if i.ag then (if i.sz ≤ xs.length then k (.agg (xs.take i.sz)) S else False) else (match xs[0]? with
      | some z => k z S
      | none => False)
    | .pt r j q => (match rowAt S.rows r with
      | some row => (match row.lk with
        | true => (match row.xs[j]? with
          | some y => vCell i row.n y q fun z => k z S
          | none => False)
        | false => ∃ y, row.xs[j]? = some y ∧ vCellS Ω i S r j row y q k)
      | none => False)
    | _ => False)
  | none => False
def vFieldAddr (T : Nat → Option TI) (t : TypeId) (i : Nat) (x : A) (k : A → Prop) : Prop :=
  match T t with
  | some ti => (match ti.fs[i]? with
    | some (off, s, _) => if s = 0 then False else (match x with
      | .pt r j q => k (.pt r j (q + off))
      | .rp xs => k (.rp (xs.drop off))
      | _ => False)
    | none => False)
  | none => False
def vField (T : Nat → Option TI) (t : TypeId) (i : Nat) (x : A) (k : A → Prop) : Prop :=
  match T t, x with
  | some ti, .agg xs => (match ti.fs[i]? with
    | some (off, s, g) => if off + s ≤ xs.length then (if g then k (.agg ((xs.drop off).take s)) else if s = 1 then k (xs.getD off .un) else False) else False
    | none => False)
  | _, _ => False
def szEl (T : Nat → Option TI) (t : TypeId) : Option (Nat × TI) :=
  match T t with
  | some i => (match i.el with
    | some e => (match T e with
      | some j => some (e, j)
      | none => none)
    | none => none)
  | none => none
def vIndexAddr (Ω : Opq) (T : Nat → Option TI) (t : TypeId) (S : State) (x y : A) (k : A → Prop) : Prop :=
  match szEl T t, y with
  | some (_, ti), .sc (.int _ i) => (match x with
    | .vw r off len => (match rowAt S.rows r with
      | some row => if ti.sz = row.n then Ob (fun _ => 0 ≤ i ∧ i < len) ∧ k (.pt r (Ω.plus off (Ω.nat i)) 0) else False
      | none => False)
    | .sl false n xs => if ti.sz = n then Ob (fun _ => 0 ≤ i) ∧ ∃ z, xs[i.toNat]? = some z ∧ k (.rp z.cells) else False
    | _ => False)
  | none, .sc (.int _ i) => (match T t with
    | some ti => (match ti.ar with
      | some (n, s) => (match x with
        | .pt r j q => Ob (fun _ => 0 ≤ i ∧ i < n) ∧ k (.pt r j (q + i.toNat * s))
        | _ => False)
      | none => False)
    | none => False)
  | _, _ => False
def vIndex (Ω : Opq) (T : Nat → Option TI) (t : TypeId) (x y : A) (k : A → Prop) : Prop :=
  match T t, x, y with
  | some ti, .sc (.string s), .sc (.int _ i) => if ti.str then Ob (fun _ => 0 ≤ i) ∧ ∃ c, (bs s)[i.toNat]? = some c ∧ k (.sc (.int .u8 (Ω.u8 c))) else False
  | _, _, _ => False
def vExtract (x : A) (i : Nat) (k : A → Prop) : Prop :=
  match x with
  | .tup xs => (match xs[i]? with
    | some z => k z
    | none => False)
  | _ => False
def vNilCheck (x : A) (k : A → Prop) : Prop :=
  match x with
  | .pt r j q => k (.pt r j q)
  | .rp xs => k (.rp xs)
  | _ => False
def vBox (S : State) (x : A) (k : A → State → Prop) : Prop :=
  if x.cells.all okCell then k (.pt S.rows.length 0 0) (S.addRow ⟨x.width, [x], true⟩) else False
def vAlloc (T : Nat → Option TI) (t : TypeId) (S : State) (k : A → State → Prop) : Prop :=
  match T t with
  | some i => (match i.z with
    | some z => k (.pt S.rows.length 0 0) (S.addRow ⟨(constA z).width, [constA z], true⟩)
    | none => False)
  | none => False
def fillF (fs : List (Nat × Nat × Bool)) : List A → List (Nat × A) → Option (List A)
  | cells, [] => some cells
  | cells, (i, x) :: rest =>
    match fs[i]? with
    | none => none
    | some (off, s, _) =>
      if x.cells.length = s then (if off + s ≤ cells.length then fillF fs (cells.take off ++ x.cells ++ cells.drop (off + s)) rest else none) else none
def vBuild (T : Nat → Option TI) (t : TypeId) (parts : List (Nat × A)) (k : A → Prop) : Prop :=
  match T t with
  | some i => (match i.z with
    | some (.agg z) => if i.fs.isEmpty then (match i.ar, parts with
      | some _, [] => k (.agg (z.toList.map cellA))
      | _, _ => False) else if parts.all (fun p => p.2.cells.all okCell) then (match fillF i.fs (z.toList.map cellA) parts with
      | some res => k (.agg res)
      | none => False) else False
    | _ => False)
  | none => False
def isVw : A → Bool
  | .vw _ _ _ => true
  | _ => false
/-- Values on their way into memory. -/
def vStash (Ω : Opq) : Nat → State → List A → (List A → State → List Nat → Prop) → Prop
  | _, S, [], k => k [] S []
  | 0, _, _ :: _, _ => False
  | n + 1, S, x :: xs, k =>
    match x with
    | .vw r off len => (match rowAt S.rows r with
      | some row => if row.lk then False else Ob (fun _ => off = 0 ∧ len ≤ row.xs.length) ∧ vStash Ω n (S.turn r none) (xs.map (kill r)) fun ys S' ks => k (.sl true row.n (Ω.take len row.xs) :: ys) S' (r :: ks)
      | none => False)
    | .pt r j q => (match rowAt S.rows r with
      | some row => if (Nat.beq j 0 && (Nat.beq q 0 && (Nat.beq row.xs.length 1 && (row.lk && (flat row.xs).all isData)))) = true then vStash Ω n (S.turn r none) (xs.map (kill r)) fun ys S' ks => k (.bx (flat row.xs) :: ys) S' (r :: ks) else False
      | none => False)
    | x => if isData x then vStash Ω n S xs fun ys S' ks => k (x :: ys) S' ks else False
def isAggN (n : Nat) : A → Bool
  | .agg xs => xs.length == n
  | _ => false
def vStore (Ω : Opq) (T : Nat → Option TI) (t : TypeId) (S : State) (x y : A) (k : State → Prop) : Prop :=
  match T t, x with
  | some i, .pt r j q => (match rowAt S.rows r with
    | some row =>
      if y.cells.length = i.sz then (if 0 < i.sz then (if q + i.sz ≤ row.n then (if y.cells.all okCell then
        (match row.lk with
        | true => (match row.xs[j]? with
          | some z => k (S.setRow r { row with xs := row.xs.set j (newElem z q y.cells) })
          | none => False)
        | false => vStash Ω y.cells.length S y.cells fun ys S' ks => if ks.contains r then False else
            if q = 0 ∧ i.sz = row.n ∧ (isAggA y) then Ob (fun _ => j < row.xs.length ∧ ∀ z ∈ row.xs, isAggN row.n z = true) ∧ k (S'.setRow r { row with xs := Ω.set row.xs j (.agg ys) })
            else if row.n = 1 then Ob (fun _ => j < row.xs.length ∧ ∀ z ∈ row.xs, isAggA z = false) ∧ k (S'.setRow r { row with xs := Ω.set row.xs j (ys.headD .un) })
            else ∃ z, row.xs[j]? = some z ∧ k (S'.setRow r { row with xs := Ω.set row.xs j (newElem z q ys) }))
        else False) else False) else False) else False
    | none => False)
  | _, _ => False
where isAggA : A → Bool
  | .agg _ => true
  | _ => false
def vBuildSlice (Ω : Opq) (T : Nat → Option TI) (t : TypeId) (len : Nat) (parts : List (Nat × A)) (S : State) (k : A → State → Prop) : Prop :=
  match szEl T t with
  | some (_, ti) =>
    if ti.z.isSome ∧ 0 < ti.sz ∧ len * ti.sz ≤ 16777216 ∧ len = parts.length ∧ parts.map (·.1) = List.range' 0 len ∧ parts.all (fun p => p.2.width == ti.sz) ∧ (flat (parts.map (·.2))).all okCell then
      vStash Ω (flat (parts.map (·.2))).length S (flat (parts.map (·.2))) fun ys S' _ => k (.vw S.rows.length 0 len) (S'.addRow ⟨ti.sz, regroup (parts.map (·.2)) ys, false⟩)
    else False
  | none => False
def vMake (Ω : Opq) (T : Nat → Option TI) (t : TypeId) (x y : A) (S : State) (k : A → State → Prop) : Prop :=
  match szEl T t, x, y with
  | some (_, ti), .sc (.int _ a), .sc (.int _ b) => (match ti.z with
    | some z => if (constA z).width = ti.sz ∧ 0 < ti.sz then Ob (fun _ => a = b ∧ 0 ≤ a ∧ ti.bytes * a.toNat ≤ 140737488355328 ∧ a.toNat ≤ maxLen) ∧
        k (.vw S.rows.length 0 (Ω.nat a)) (S.addRow ⟨ti.sz, Ω.rep (Ω.nat a) (constA z), false⟩) else False
    | none => False)
  | _, _, _ => False
def vLo (Ω : Opq) (x : Option A) (d : Nat) (k : (Unit → Prop) → Nat → Prop) : Prop :=
  match x with
  | none => k (fun _ => True) d
  | some (.sc (.int _ n)) => k (fun _ => 0 ≤ n) (Ω.nat n)
  | _ => False
def vSlice (Ω : Opq) (T : Nat → Option TI) (t : TypeId) (S : State) (x : A) (lo hi : Option A) (k : A → Prop) : Prop :=
  match T t with
  | some ti => (match x with
    | .sc (.string s) => if ti.str then vLo Ω lo 0 fun c1 l => vLo Ω hi (Ω.lenS (bs s)) fun c2 h => Ob (fun _ => c1 () ∧ c2 () ∧ l ≤ h ∧ h ≤ (bs s).length) ∧ k (.sc (.string (mkS (Ω.segS l h (bs s))))) else False
    | .vw r off len => (match rowAt S.rows r, szEl T t with
      | some row, some (_, ei) => if ei.sz = row.n then vLo Ω lo 0 fun c1 l => vLo Ω hi len fun c2 h => Ob (fun _ => c1 () ∧ c2 () ∧ l ≤ h ∧ h ≤ len) ∧ k (.vw r (Ω.plus off l) (Ω.minus h l)) else False
      | _, _ => False)
    | .sl false n xs => (match szEl T t with
      | some (_, ei) => if ei.sz = n then vLo Ω lo 0 fun c1 l => vLo Ω hi (Ω.len xs) fun c2 h => Ob (fun _ => c1 () ∧ c2 () ∧ l ≤ h ∧ h ≤ xs.length) ∧ k (.sl false n (Ω.seg l h xs)) else False
      | none => False)
    | _ => False)
  | none => False
def zOK (ti : TI) : Bool :=
  match ti.z with
  | some z => (constA z).width == ti.sz && decide (0 < ti.sz)
  | none => false
/-- 'mv': the second one is a slice that nobody else will use. -/
def vAppend (Ω : Opq) (T : Nat → Option TI) (t : TypeId) (mv : Bool) (S : State) (x y : A) (k : A → State → Prop) : Prop :=
  match szEl T t with
  | some (_, ti) => if zOK ti then (match x with
    | .vw r off len => (match rowAt S.rows r with
      | some row => if off = 0 ∧ ti.sz = row.n ∧ row.lk = false then (match mv, y with
        | true, .vw r2 off2 len2 => (match rowAt S.rows r2 with
          | some row2 => if off2 = 0 ∧ row2.lk = false ∧ r2 ≠ r ∧ row2.n = row.n then
              Ob (fun _ => len2 = row2.xs.length ∧ (∀ c ∈ flat row2.xs, okCell c = true) ∧ (len + row2.xs.length) * ti.bytes ≤ 140737488355328 ∧ len + row2.xs.length ≤ maxLen) ∧
              k (.vw r 0 (Ω.plus len (Ω.len row2.xs))) ((S.turn r2 none).turn r (some ⟨row.n, Ω.app (Ω.take len row.xs) row2.xs, false⟩)) else False
          | none => False)
        | _, .nil => Ob (fun _ => len * ti.bytes ≤ 140737488355328 ∧ len ≤ maxLen) ∧ k (.vw r 0 len) (S.turn r (some ⟨row.n, Ω.take len row.xs, false⟩))
        | _, .sl false n xs2 => if n = row.n then
              Ob (fun _ => (∀ y ∈ xs2, noOwn y = true) ∧ (∀ c ∈ flat xs2, okCell c = true) ∧ (len + xs2.length) * ti.bytes ≤ 140737488355328 ∧ len + xs2.length ≤ maxLen) ∧
              k (.vw r 0 (Ω.plus len (Ω.len xs2))) (S.turn r (some ⟨row.n, Ω.app (Ω.take len row.xs) xs2, false⟩)) else False
        | _, .vw r2 off2 len2 => (match rowAt S.rows r2 with
          | some row2 => if row2.lk = false ∧ row2.n = row.n then
              Ob (fun _ => off2 + len2 ≤ row2.xs.length ∧ (∀ y ∈ (row2.xs.drop off2).take len2, noOwn y = true) ∧ (∀ c ∈ flat ((row2.xs.drop off2).take len2), okCell c = true) ∧ (len + len2) * ti.bytes ≤ 140737488355328 ∧ len + len2 ≤ maxLen) ∧
              k (.vw r 0 (Ω.plus len len2)) (S.turn r (some ⟨row.n, Ω.app (Ω.take len row.xs) (Ω.seg off2 (Ω.plus off2 len2) row2.xs), false⟩)) else False
          | none => False)
        | _, _ => False) else False
      | none => False)
    | .nil => (match y with
      | .nil => k .nil S
      | .sl false n xs2 => if n = ti.sz then Ob (fun _ => (∀ y ∈ xs2, noOwn y = true) ∧ (∀ c ∈ flat xs2, okCell c = true) ∧ xs2.length * ti.bytes ≤ 140737488355328 ∧ xs2.length ≤ maxLen) ∧
          k (.vw S.rows.length 0 (Ω.len xs2)) (S.addRow ⟨ti.sz, xs2, false⟩) else False
      | .vw r2 off2 len2 => (match rowAt S.rows r2 with
        | some row2 => if row2.lk = false ∧ row2.n = ti.sz then
            Ob (fun _ => off2 + len2 ≤ row2.xs.length ∧ (∀ y ∈ (row2.xs.drop off2).take len2, noOwn y = true) ∧ (∀ c ∈ flat ((row2.xs.drop off2).take len2), okCell c = true) ∧ len2 * ti.bytes ≤ 140737488355328 ∧ len2 ≤ maxLen) ∧
            k (.vw S.rows.length 0 len2) (S.addRow ⟨ti.sz, Ω.seg off2 (Ω.plus off2 len2) row2.xs, false⟩) else False
        | none => False)
      | _ => False)
    | _ => False) else False
  | none => False

def vConv (Ω : Opq) (T : Nat → Option TI) (src dst : TypeId) (S : State) (x : A) (k : A → Prop) : Prop :=
  match T src, T dst with
  | some i, some j => (match x with
    | .sc (.int _ n) => (match j.kind with
      | some kk => k (.sc (.int kk (Ω.wrap kk n)))
      | none => False)
    | .sc (.string s) => if i.str && j.str then k (.sc (.string s)) else False
    | .vw r off len => (match rowAt S.rows r, szEl T src with
      | some row, some (_, e) => (match e.kind with
        | some .u8 => if row.n = 1 ∧ j.str = true then ∃ ns, (off + len ≤ row.xs.length ∧ (row.xs.drop off).take len = ns.map byteA) ∧ k (.sc (.string (mkS ns))) else False
        | _ => False)
      | _, _ => False)
    | .sl false n xs => (match szEl T src with
      | some (_, e) => (match e.kind with
        | some .u8 => if n = 1 ∧ j.str = true then ∃ ns, xs = ns.map byteA ∧ k (.sc (.string (mkS ns))) else False
        | _ => False)
      | _ => False)
    | _ => False)
  | _, _ => False
/-- From an own row of data what lies behind is made zero. -/
def vClear (Ω : Opq) (T : Nat → Option TI) (t : TypeId) (S : State) (x : A) (k : A → State → Prop) : Prop :=
  match szEl T t, x with
  | some (_, ti), .vw r off len => (match rowAt S.rows r, ti.z with
    | some row, some z => if row.lk = false ∧ row.n = 1 ∧ ti.sz = 1 ∧ isAggV z = false then
        Ob (fun _ => off + len = row.xs.length ∧ ∀ y ∈ row.xs, isAggB y = false) ∧ k (.tup []) (S.setRow r ⟨row.n, Ω.app (Ω.take off row.xs) (Ω.rep len (cellA z)), false⟩) else False
    | _, _ => False)
  | _, _ => False
def vMakeFn (f : Fn) (first : List A) (caps : List A) (k : A → Prop) : Prop :=
  match f, first with
  | .func g, [] => if g < 1000000 then k (.clo g caps) else False
  | .func g, first => (match caps with
    | [] => if g < 1000000 then k (.clo (1000000 + g) first) else False
    | _ => False)
  | _, _ => False
/-- A conversion that may lay bytes of a text. -/
def vConvN (Ω : Opq) (T : Nat → Option TI) (src dst : TypeId) (S : State) (x : A) (k : A → Prop) : Prop :=
  match szEl T dst, x with
  | some (_, e), .sc (.string s) => (match e.kind, T src with
    | some .u8, some i => if i.str then ∃ xs, Ob (fun _ => xs = (bs s).map byteA ∧ s.size ≤ maxLen) ∧ k (.sl false 1 xs) else False
    | _, _ => False)
  | _, _ => vConv Ω T src dst S x k
def vCall (Ω : Opq) (P : Program) (T : Nat → Option TI) (mv : Option Nat) (S : State) (f : Callee) (args : List Operand) (ts : List TypeId) (k : A → State → Prop) : Prop :=
  match f with
  | .value (.func g) => if g < 1000000 then CallX P g (args.map (ev S)) S k else False
  | .value f => (match ev S f with
    | .clo g caps => CallX P (Ω.cloN g) (Ω.cloA g (args.map (ev S)) caps) S k
    | _ => False)
  | .builtin .clear => (match args, ts with
    | [x], [t] => vClear Ω T t S (ev S x) k
    | _, _ => False)
  | .builtin .len => (match args, ts with
    | [x], [t] => vLen Ω T t (ev S x) fun z => k z S
    | _, _ => False)
  | .builtin .max => (match args.map (ev S) with
    | [.sc (.int kk a), .sc (.int _ b)] => k (.sc (.int kk (Ω.mx a b))) S
    | _ => False)
  | .builtin .append => (match args, ts with
    | [x, y], [t, t'] => if t = t' then vAppend Ω T t (match y with
      | .tmp i => mv == some i
      | _ => false) S (ev S x) (ev S y) k else False
    | _, _ => False)
  | _ => False
def vOp (Ω : Opq) (P : Program) (T : Nat → Option TI) (mv : Option Nat) (o : Oper) (S : State) (K : State → Prop) : Prop :=
  match o.op with
  | .move x => K (S.put o.dst (ev S x))
  | .assign x => K (S.put o.dst (ev S x))
  | .pick c x y => vPick Ω (ev S c) (ev S x) (ev S y) fun z => K (S.put o.dst z)
  | .unOp op _ x => vUn Ω op (ev S x) fun z => K (S.put o.dst z)
  | .binOp op t x y _ => vBinN Ω P T op t (ev S x) (ev S y) fun z => K (S.put o.dst z)
  | .load t x => vLoadS Ω T t S (ev S x) fun z S' => K (S'.put o.dst z)
  | .fieldAddr t x i => vFieldAddr T t i (ev S x) fun z => K (S.put o.dst z)
  | .field t x i => vField T t i (ev S x) fun z => K (S.put o.dst z)
  | .indexAddr t x y => vIndexAddr Ω T t S (ev S x) (ev S y) fun z => K (S.put o.dst z)
  | .index t x y => vIndex Ω T t (ev S x) (ev S y) fun z => K (S.put o.dst z)
  | .extract x i => vExtract (ev S x) i fun z => K (S.put o.dst z)
  | .nilCheck x => vNilCheck (ev S x) fun z => K (S.put o.dst z)
  | .box _ x => vBox S (ev S x) fun z S' => K (S'.put o.dst z)
  | .alloc t => vAlloc T t S fun z S' => K (S'.put o.dst z)
  | .build t parts => vBuild T t (parts.toList.map fun p => (p.1, ev S p.2)) fun z => K (S.put o.dst z)
  | .store t x y => vStore Ω T t S (ev S x) (ev S y) fun S' => K (S'.put o.dst .un)
  | .buildSlice t len parts => vBuildSlice Ω T t len (parts.toList.map fun p => (p.1, ev S p.2)) S fun z S' => K (S'.put o.dst z)
  | .makeSlice t x y => vMake Ω T t (ev S x) (ev S y) S fun z S' => K (S'.put o.dst z)
  | .slice t x lo hi none => vSlice Ω T t S (ev S x) (lo.map (ev S)) (hi.map (ev S)) fun z => K (S.put o.dst z)
  | .convert src dst x => vConvN Ω T src dst S (ev S x) fun z => K (S.put o.dst z)
  | .makeFunc f first caps => vMakeFn f (first.toList.map (ev S)) (caps.toList.map (ev S)) fun z => K (S.put o.dst z)
  | .call c => vCall Ω P T mv S c.callee c.args.toList c.argTypes.toList fun z S' => K (S'.put o.dst z)
  | _ => HardX P o S K
/-- Who was just made. -/
def madeBy (o : Oper) : Option Nat :=
  match o.op with
  | .buildSlice _ _ _ => o.dst
  | _ => none
def guardAt (ops : List Oper) (j : Nat) : Option Nat := (ops[j]?).bind (·.dst)
def vOps (Ω : Opq) (P : Program) (T : Nat → Option TI) (ops : List Oper) : Option Nat → List Oper → State → (State → Prop) → Prop
  | _, [], S, K => K S
  | mv, o :: os, S, K =>
    match o.guard with
    | none => vOp Ω P T mv o S fun S' => vOps Ω P T ops (madeBy o) os S' K
    | some (j, b) =>
      match guardAt ops j with
      | none => False
      | some i => if i < S.N then (match lk S.t i with
        | .sc (.bool p) => brB p
            (fun _ => match b with
              | true => vOp Ω P T mv o (S.put (some i) (.sc (.bool true))) fun S' => vOps Ω P T ops (madeBy o) os S' K
              | false => vOps Ω P T ops none os ((S.put (some i) (.sc (.bool true))).put o.dst (.tup [])) K)
            (fun _ => match b with
              | true => vOps Ω P T ops none os ((S.put (some i) (.sc (.bool false))).put o.dst (.tup [])) K
              | false => vOp Ω P T mv o (S.put (some i) (.sc (.bool false))) fun S' => vOps Ω P T ops (madeBy o) os S' K)
        | .tup [] => vOps Ω P T ops none os (S.put o.dst (.tup [])) K
        | _ => False) else False
def vC (Ω : Opq) (P : Program) (T : Nat → Option TI) : Code → State → (Exit → State → Prop) → Prop
  | .skip, S, K => K .normal S
  | .exit id, S, K => K (.exit id) S
  | .ret, S, K => K .ret S
  | .seq x y, S, K => vC Ω P T x S (thenK (fun S' => vC Ω P T y S' K) K)
  | .block id c, S, K => vC Ω P T c S (blockK id K)
  | .cond x c d, S, K => (match ev S x with
    | .sc (.bool p) => brB p (fun _ => vC Ω P T c S K) (fun _ => vC Ω P T d S K)
    | _ => False)
  | .region _ ops false, S, K => vOps Ω P T ops.toList none ops.toList S (K .normal)
  | c, S, K => VCX P c S K
end Go.Fw

/- The reckoning is sound. Plain theorems, no condition. -/
set_option linter.unusedVariables false
set_option linter.unusedSimpArgs false
namespace Go.Fw

structure TIok (P : Program) (t : TypeId) (i : TI) : Prop where
  sz : szT P t = some i.sz
  bytes : bytesT P t = i.bytes
  el : elemT P t = i.el
  ag : aggT P t = some i.ag
  str : isStrT P t = i.str
  bool : isBoolT P t = i.bool
  fs : ∀ k f, i.fs[k]? = some f → fieldT P t k = some f
  z : ∀ v, i.z = some v → zeroT P t = some v ∧ okV v = true
  pl : i.fs.isEmpty = false → placesT P t = true
  kind : kindT P t = i.kind
  ar : arT P t = i.ar
theorem fsT_at {P : Program} {t : TypeId} (h : (List.range (fsT P t).length).all (fun i => (fieldT P t i).isSome) = true) {k : Nat} {f : Nat × Nat × Bool} (hf : (fsT P t)[k]? = some f) : fieldT P t k = some f := by
  have hk : k < (fsT P t).length := (List.getElem?_eq_some_iff.1 hf).1
  have h1 := List.all_eq_true.1 h k (List.mem_range.2 hk)
  unfold fsT at hf
  split at hf
  · rename_i fs hu
    rw [List.getElem?_map, Option.map_eq_some_iff] at hf
    obtain ⟨j, hj, hf⟩ := hf
    obtain ⟨hj1, hj2⟩ := List.getElem?_eq_some_iff.1 hj
    rw [List.getElem_range] at hj2
    subst hj2
    rw [Option.isSome_iff_exists] at h1
    obtain ⟨g, hg⟩ := h1
    rw [hg] at hf ⊢
    simpa using hf
  · simp at hf
theorem tiOf_ok {P : Program} {t : TypeId} {i : TI} (h : tiOf P t = some i) : TIok P t i := by
  unfold tiOf at h
  split at h
  · rename_i s g hs hg
    split at h
    · rename_i hc
      simp only [Bool.and_eq_true, Bool.or_eq_true] at hc
      cases h
      refine ⟨hs, rfl, rfl, hg, rfl, rfl, fun k f hf => fsT_at hc.1 hf, fun v hv => ?_, fun he => ?_, rfl, rfl⟩
      · dsimp only at hv
        split at hv
        · rename_i v' hz
          split at hv
          · rename_i ho
            cases hv; exact ⟨hz, ho⟩
          · simp at hv
        · simp at hv
      · rcases hc.2 with h | h
        · dsimp only at he; rw [h] at he; simp at he
        · exact h
    · simp at h
  · simp at h
def TabOK (P : Program) (T : Nat → Option TI) : Prop := ∀ t i, T t = some i → tiOf P t = some i

section
variable {P : Program} {T : Nat → Option TI} {S : State} {o : Oper} {K : State → Prop}
theorem szEl_ok (hT : TabOK P T) {t e : Nat} {ti : TI} (h : szEl T t = some (e, ti)) : elemT P t = some e ∧ TIok P e ti := by
  unfold szEl at h
  split at h <;> try simp at h
  rename_i i hi
  split at h <;> try simp at h
  rename_i e' he
  split at h <;> try simp at h
  rename_i j hj
  obtain ⟨rfl, rfl⟩ := h
  exact ⟨(tiOf_ok (hT _ _ hi)).el.trans he, tiOf_ok (hT _ _ hj)⟩
theorem vPick_ok {k : A → Prop} {c x y : Operand} (ho : o.op = .pick c x y) (h : vPick std (ev S c) (ev S x) (ev S y) k) : ∃ z, VOK P o S z ∧ k z := by
  unfold vPick at h
  split at h <;> try exact h.elim
  rename_i b hb
  refine ⟨_, VOK_pick (b := b) ho rfl rfl hb rfl, ?_⟩
  split at h
  · rename_i p q hp hq
    rw [hp, hq]; exact h
  · rename_i hn
    have : pickA b (ev S x) (ev S y) = if b then ev S x else ev S y := by
      unfold pickA
      split
      · rename_i p q hp hq
        exact (hn p q hp hq).elim
      · rfl
    rw [this]
    cases b with
    | true => exact h
    | false => exact h
theorem vUn_ok {k : A → Prop} {op : UnOp} {t : TypeId} {x : Operand} (ho : o.op = .unOp op t x) (h : vUn std op (ev S x) k) : ∃ z, VOK P o S z ∧ k z := by
  unfold vUn at h
  split at h <;> try exact h.elim
  · rename_i b hb
    exact ⟨_, VOK_unOp ho rfl hb rfl, h⟩
  · rename_i k n hn
    exact ⟨_, VOK_unOp ho rfl hn rfl, h⟩
theorem vBin_ok {k : A → Prop} (hT : TabOK P T) {op : BinOp} {t t' : TypeId} {x y : Operand} (ho : o.op = .binOp op t x y t') (h : vBin std T op t (ev S x) (ev S y) k) : ∃ z, VOK P o S z ∧ k z := by
  unfold vBin at h
  split at h <;> try exact h.elim
  · rename_i ka a kb b h1 h2
    have go : (binS P op t (.int ka a) (.int kb b)).1 → k (.sc (binS P op t (.int ka a) (.int kb b)).2) → ∃ z, VOK P o S z ∧ k z := fun hc hk => ⟨_, VOK_binOp ho rfl rfl h1 h2 hc, hk⟩
    unfold vBinI at h
    split at h
    · exact go h.1.h h.2
    · exact go h.1.h h.2
    · split at h <;> try exact h.elim
      rename_i hk
      subst hk
      split at h
      · exact go rfl h
      · exact go rfl h
      · exact go rfl h
      · exact go rfl h
      · exact go rfl h
      · exact go rfl h
      · exact go rfl h
      · exact go ⟨rfl, h.1.h⟩ h.2
      · exact go ⟨rfl, h.1.h⟩ h.2
      · cases op <;> first | exact go rfl h | simp_all
  · rename_i a b h1 h2
    have go : (binS P op t (.string a) (.string b)).1 → k (.sc (binS P op t (.string a) (.string b)).2) → ∃ z, VOK P o S z ∧ k z := fun hc hk => ⟨_, VOK_binOp ho rfl rfl h1 h2 hc, hk⟩
    unfold vBinS at h
    split at h <;> try exact h.elim
    · exact go h.1.h h.2
    all_goals exact go trivial h
  · rename_i a b h1 h2
    split at h <;> try exact h.elim
    · rename_i i hi
      split at h <;> try exact h.elim
      rename_i hb
      exact ⟨_, VOK_binOp ho rfl rfl h1 h2 (by rw [← (tiOf_ok (hT _ _ hi)).bool] at hb; exact hb), h⟩
    · rename_i i hi
      split at h <;> try exact h.elim
      rename_i hb
      exact ⟨_, VOK_binOp ho rfl rfl h1 h2 (by rw [← (tiOf_ok (hT _ _ hi)).bool] at hb; exact hb), h⟩
theorem sc_vals {G : Nat → Prop} {gs : Gh} {w : World} {rows : List (Option Row)} : ∀ {us : List Value} {vs : List Value}, TRelL w G rows gs (us.map A.sc) vs [] → vs = us
  | [], vs, h => by
    generalize hF : ([] : List Nat) = F at h
    cases h
    rfl
  | u :: us, vs, h => by
    generalize hF : ([] : List Nat) = F at h
    cases h with
    | cons h hl =>
      rename_i v F1 vs Fs
      have hF' : F1 = [] ∧ Fs = [] := by simpa using hF.symm
      obtain ⟨rfl, rfl⟩ := hF'
      rw [(sc_inv h).1, sc_vals hl]
theorem vBinA_ok {k : A → Prop} (hT : TabOK P T) {op : BinOp} {t t' : TypeId} {x y : Operand} (ho : o.op = .binOp op t x y t') (h : vBinA std P T op t (ev S x) (ev S y) k) : ∃ z, VOK P o S z ∧ k z := by
  unfold vBinA at h
  split at h
  · rename_i xs ys h1 h2
    obtain ⟨us, vs, b, rfl, rfl, hr, hk⟩ := h.h
    refine ⟨_, fun E G gs a w hi => ⟨.bool b, fun w' hw' => ?_, .of (.sc rfl)⟩, hk⟩
    have e1 := ev_rel hi x rfl
    have e2 := ev_rel hi y rfl
    rw [h1] at e1
    rw [h2] at e2
    obtain ⟨cs, v1, l1⟩ := agg_inv e1
    obtain ⟨ds, v2, l2⟩ := agg_inv e2
    have d1 := sc_vals l1
    have d2 := sc_vals l2
    have hr := hr x y w'
    rw [← d1, ← d2, Array.toArray_toList, Array.toArray_toList] at hr
    simp only [execOp, ho, v1, v2, Sem.run_bind] at hr ⊢
    rw [hr]
    rfl
  · exact vBin_ok hT ho h
theorem vBinN_ok (hT : TabOK P T) {op : BinOp} {t t' : TypeId} {x y : Operand} (ho : o.op = .binOp op t x y t') (h : vBinN std P T op t (ev S x) (ev S y) fun z => K (S.put o.dst z)) : opOK P o S K := by
  unfold vBinN at h
  split at h
  · rename_i n xs h1 h2
    intro E a w next Q hs hn
    obtain ⟨hd, G, gs, hi⟩ := hs
    have e1 := ev_rel hi x rfl
    have e2 := ev_rel hi y rfl
    rw [h1] at e1
    rw [h2] at e2
    have v2 : a.eval y = .slice none 0 0 := by
      generalize a.eval y = u at e2
      cases e2 with | of h => cases h; rfl
    obtain ⟨oa, len, cap, v1, hnil⟩ : ∃ oa len cap, a.eval x = .slice oa len cap ∧ (oa = none → xs = []) := by
      rcases slf_inv e1 with ⟨⟨oa, hv⟩, rfl⟩ | ⟨b, k, cap, cur, et, fr, hv, _⟩
      · exact ⟨_, _, _, hv, fun _ => rfl⟩
      · exact ⟨_, _, _, hv, fun h => by simp at h⟩
    split at h <;> try exact h.elim
    · rename_i i hi'
      split at h <;> try exact h.elim
      rename_i hel
      have hti := tiOf_ok (hT _ _ hi')
      obtain ⟨e, he⟩ := Option.isSome_iff_exists.1 hel
      have hu := elemT_inv (hti.el.trans he)
      have hrun : (execOp a.eval o).run P w = .ok (.value (.bool oa.isNone)) w := by
        have key : ∀ d, (Op.equalIn (d + 1) t (.slice oa len cap) (.slice none 0 0)).run P w = .ok oa.isNone w := fun d => by
          simp only [Op.equalIn, Sem.run_bind, run_underlying hu, Result.andThen_ok]
          cases oa <;> simp
        have key := key 9999
        have key : (Op.equal t (.slice oa len cap) (.slice none 0 0)).run P w = .ok oa.isNone w := key
        simp [execOp, ho, v1, v2, eqGuard, binOp, key]
      unfold Oper.wp
      rw [hrun]
      exact hn _ _ _ (h oa.isNone (fun hb => hnil (by simpa using hb))) ⟨by rw [put_defers]; exact hd, G, gs, hi.put (.of (.sc rfl)) o.dst⟩
    · rename_i i hi'
      split at h <;> try exact h.elim
      rename_i hel
      have hti := tiOf_ok (hT _ _ hi')
      obtain ⟨e, he⟩ := Option.isSome_iff_exists.1 hel
      have hu := elemT_inv (hti.el.trans he)
      have hrun : (execOp a.eval o).run P w = .ok (.value (.bool (!oa.isNone))) w := by
        have key : ∀ d, (Op.equalIn (d + 1) t (.slice oa len cap) (.slice none 0 0)).run P w = .ok oa.isNone w := fun d => by
          simp only [Op.equalIn, Sem.run_bind, run_underlying hu, Result.andThen_ok]
          cases oa <;> simp
        have key := key 9999
        have key : (Op.equal t (.slice oa len cap) (.slice none 0 0)).run P w = .ok oa.isNone w := key
        simp [execOp, ho, v1, v2, eqGuard, binOp, key]
      unfold Oper.wp
      rw [hrun]
      exact hn _ _ _ (h (!oa.isNone) (fun hb => hnil (by simpa using hb))) ⟨by rw [put_defers]; exact hd, G, gs, hi.put (.of (.sc rfl)) o.dst⟩
  · obtain ⟨z, h1, h2⟩ := vBinA_ok hT ho h
    exact opOK_of h1 h2
theorem vLen_ok {k : A → Prop} (hT : TabOK P T) {t : TypeId} {x : Operand} {ci : Call} (ho : o.op = .call ci) (h1 : ci.callee = .builtin .len) (h2 : ci.args.toList = [x]) (h3 : ci.argTypes.toList = [t]) (h : vLen std T t (ev S x) k) : ∃ z, VOK P o S z ∧ k z := by
  have ho' : o.op = .call { callee := .builtin .len, args := #[x], argTypes := #[t] } := by
    rw [ho]; congr; cases ci with | mk a b c => simp only at h1 h2 h3; congr <;> (apply Array.toList_inj.1; simpa using by assumption)
  unfold vLen at h
  split at h <;> try exact h.elim
  rename_i i hi
  have hti := tiOf_ok (hT _ _ hi)
  have ns : ∀ {z : A}, ev S x = z → (∀ s, z ≠ .sc (.string s)) → i.str = false → (isStrT P t = true ↔ ∃ s, ev S x = .sc (.string s)) := fun h1 h2 h3 => by
    rw [hti.str, h3, h1]; simp [h2]
  split at h <;> try exact h.elim
  · rename_i hx
    split at h <;> try exact h.elim
    rename_i hc
    simp only [Bool.and_eq_true, Bool.not_eq_true'] at hc
    exact ⟨_, VOK_len (n := 0) ho' rfl (.inl (by rw [hti.el]; exact hc.1)) (by rw [hx]; rfl) (ns hx (by simp) hc.2), h⟩
  · rename_i n xs hx
    split at h <;> try exact h.elim
    rename_i hc
    simp only [Bool.and_eq_true, Bool.not_eq_true'] at hc
    exact ⟨_, VOK_len (n := xs.length) ho' rfl (.inl (by rw [hti.el]; exact hc.1)) (by rw [hx]; rfl) (ns hx (by simp) hc.2), h⟩
  · rename_i r off len hx
    split at h <;> try exact h.elim
    rename_i hc
    simp only [Bool.and_eq_true, Bool.not_eq_true'] at hc
    exact ⟨_, VOK_len (n := len) ho' rfl (.inl (by rw [hti.el]; exact hc.1)) (by rw [hx]; rfl) (ns hx (by simp) hc.2), h⟩
  · rename_i s hx
    split at h <;> try exact h.elim
    rename_i hc
    exact ⟨_, VOK_len (n := (bs s).length) ho' rfl (.inr (by rw [hti.str]; exact hc)) (by rw [hx]; rfl) (by rw [hti.str]; simp [hc, hx]), h⟩
theorem vLoad_ok {k : A → Prop} (hT : TabOK P T) {t : TypeId} {x : Operand} (ho : o.op = .load t x) (h : vLoad T t S (ev S x) k) : ∃ z, VOK P o S z ∧ k z := by
  unfold vLoad at h
  split at h <;> try exact h.elim
  rename_i i hi
  have hti := tiOf_ok (hT _ _ hi)
  split at h <;> try exact h.elim
  · rename_i xs hx
    split at h
    · rename_i hag
      split at h <;> try exact h.elim
      rename_i hle
      exact ⟨_, VOK_load_rpAgg ho rfl hx (by rw [hti.ag, hag]) hti.sz hle, h⟩
    · rename_i hag
      split at h <;> try exact h.elim
      rename_i z hz
      exact ⟨_, VOK_load_rp ho rfl hx (by rw [hti.ag]; simpa using hag) hz, h⟩
  · rename_i r j q hx
    split at h <;> try exact h.elim
    rename_i row hr
    have cell : ∀ y, row.xs[j]? = some y → vCell i row.n y q k → ∃ z, VOK P o S z ∧ k z := fun y hy h => by
      unfold vCell at h
      split at h
      · rename_i hag
        split at h <;> try exact h.elim
        rename_i hq
        split at h <;> try exact h.elim
        rename_i hno
        exact ⟨_, VOK_load_ptAgg ho rfl hx hr hy (by rw [hti.ag, hag]) hti.sz hq hno, h⟩
      · rename_i hag
        split at h <;> try exact h.elim
        rename_i z hz
        split at h <;> try exact h.elim
        rename_i hno
        exact ⟨_, VOK_load_pt ho rfl hx hr hy (by rw [hti.ag]; simpa using hag) hz hno, h⟩
    split at h
    · split at h <;> try exact h.elim
      rename_i y hy
      exact cell y hy h
    · obtain ⟨y, hy, h⟩ := h
      exact cell y hy h
theorem vFieldAddr_ok {k : A → Prop} (hT : TabOK P T) {t : TypeId} {x : Operand} {i : Nat} (ho : o.op = .fieldAddr t x i) (h : vFieldAddr T t i (ev S x) k) : ∃ z, VOK P o S z ∧ k z := by
  unfold vFieldAddr at h
  split at h <;> try exact h.elim
  rename_i ti hi
  have hti := tiOf_ok (hT _ _ hi)
  split at h <;> try exact h.elim
  rename_i off s g hf
  split at h <;> try exact h.elim
  rename_i hs
  split at h <;> try exact h.elim
  · rename_i r j q hx
    exact ⟨_, VOK_fieldAddr_pt ho rfl hx (hti.fs _ _ hf) hs, h⟩
  · rename_i xs hx
    exact ⟨_, VOK_fieldAddr_rp ho rfl hx (hti.fs _ _ hf) hs, h⟩
theorem vField_ok {k : A → Prop} (hT : TabOK P T) {t : TypeId} {x : Operand} {i : Nat} (ho : o.op = .field t x i) (h : vField T t i (ev S x) k) : ∃ z, VOK P o S z ∧ k z := by
  unfold vField at h
  split at h <;> try exact h.elim
  rename_i ti xs hi hx
  have hti := tiOf_ok (hT _ _ hi)
  split at h <;> try exact h.elim
  rename_i off s g hf
  split at h <;> try exact h.elim
  rename_i hl
  split at h
  · rename_i hg
    exact ⟨_, VOK_field ho rfl hx (hti.fs _ _ hf) hl (by simp [hg]), by rw [if_pos hg]; exact h⟩
  · rename_i hg
    split at h <;> try exact h.elim
    rename_i hs
    exact ⟨_, VOK_field ho rfl hx (hti.fs _ _ hf) hl (fun _ => hs), by rw [if_neg hg]; exact h⟩
theorem VOK_indexAddr_pa {t : TypeId} {x y : Operand} {r j q n s : Nat} {k : IntKind} {i : Int} (ho : o.op = .indexAddr t x y) (hx : okO x = true) (hy : okO y = true)
    (h1 : ev S x = .pt r j q) (h2 : ev S y = .sc (.int k i)) (ha : arT P t = some (n, s)) (h0 : 0 ≤ i) (hl : i < n) : VOK P o S (.pt r j (q + i.toNat * s)) := by
  refine fun E G gs a w hi => ?_
  have e1 := ev_rel hi x hx
  have e2 := ev_rel hi y hy
  rw [h1] at e1
  rw [h2] at e2
  obtain ⟨row, b, hr, hb, hv⟩ := pt_inv e1
  have hv2 := (sc_inv e2).1
  unfold arT at ha
  split at ha
  case h_2 => cases ha
  rename_i n' e hu
  obtain ⟨s', hs, hns⟩ := Option.map_eq_some_iff.1 ha
  obtain ⟨rfl, rfl⟩ := Prod.mk.inj hns
  refine ⟨.pointer (some ⟨b, j * row.n + (q + i.toNat * s'), none⟩), ?_, .pt hr hb rfl⟩
  intro w' hw'
  simp [execOp, ho, hv, hv2, Instr.indexAt, asIntOf, run_underlying hu, Instr.sureAddr, h0, hl, run_sizeOf hs, add_none, Nat.add_assoc]
theorem vIndexAddr_ok {k : A → Prop} (hT : TabOK P T) {t : TypeId} {x y : Operand} (ho : o.op = .indexAddr t x y) (h : vIndexAddr std T t S (ev S x) (ev S y) k) : ∃ z, VOK P o S z ∧ k z := by
  unfold vIndexAddr at h
  split at h <;> try exact h.elim
  · rename_i e ti k i hs hy
    obtain ⟨he, hti⟩ := szEl_ok hT hs
    split at h <;> try exact h.elim
    · rename_i r off len hx
      split at h <;> try exact h.elim
      rename_i row hr
      split at h <;> try exact h.elim
      rename_i hn
      exact ⟨_, VOK_indexAddr_vw ho rfl rfl hx hy hr he (by rw [hti.sz, hn]) h.1.h.1 h.1.h.2, h.2⟩
    · rename_i n xs hx
      split at h <;> try exact h.elim
      rename_i hn
      obtain ⟨h1, z, hz, h⟩ := h
      exact ⟨_, VOK_indexAddr_sl ho rfl rfl hx hy he (by rw [hti.sz, hn]) h1.h hz, h⟩
  · rename_i k i hs hy
    split at h <;> try exact h.elim
    rename_i ti ht
    split at h <;> try exact h.elim
    rename_i n s ha
    split at h <;> try exact h.elim
    rename_i r j q hx
    exact ⟨_, VOK_indexAddr_pa ho rfl rfl hx hy (by rw [(tiOf_ok (hT _ _ ht)).ar]; exact ha) h.1.h.1 h.1.h.2, h.2⟩
theorem vIndex_ok {k : A → Prop} (hT : TabOK P T) {t : TypeId} {x y : Operand} (ho : o.op = .index t x y) (h : vIndex std T t (ev S x) (ev S y) k) : ∃ z, VOK P o S z ∧ k z := by
  unfold vIndex at h
  split at h <;> try exact h.elim
  rename_i ti s k i hi hx hy
  split at h <;> try exact h.elim
  rename_i hs
  obtain ⟨h1, c, hc, h⟩ := h
  exact ⟨_, VOK_index ho rfl rfl hx hy (by rw [(tiOf_ok (hT _ _ hi)).str]; exact hs) h1.h hc, h⟩
theorem vExtract_ok {k : A → Prop} {x : Operand} {i : Nat} (ho : o.op = .extract x i) (h : vExtract (ev S x) i k) : ∃ z, VOK P o S z ∧ k z := by
  unfold vExtract at h
  split at h <;> try exact h.elim
  rename_i xs hx
  split at h <;> try exact h.elim
  rename_i z hz
  exact ⟨_, VOK_extract ho rfl hx hz, h⟩
theorem vNilCheck_ok {k : A → Prop} {x : Operand} (ho : o.op = .nilCheck x) (h : vNilCheck (ev S x) k) : ∃ z, VOK P o S z ∧ k z := by
  unfold vNilCheck at h
  split at h <;> try exact h.elim
  · rename_i hx; exact ⟨_, VOK_nilCheck_pt ho rfl hx, h⟩
  · rename_i hx; exact ⟨_, VOK_nilCheck_rp ho rfl hx, h⟩
theorem vBox_ok {t : TypeId} {x : Operand} (ho : o.op = .box t x) (h : vBox S (ev S x) fun z S' => K (S'.put o.dst z)) : opOK P o S K := by
  unfold vBox at h
  split at h <;> try exact h.elim
  rename_i hc
  exact opOK_box ho rfl hc h
theorem vAlloc_ok (hT : TabOK P T) {t : TypeId} (ho : o.op = .alloc t) (h : vAlloc T t S fun z S' => K (S'.put o.dst z)) : opOK P o S K := by
  unfold vAlloc at h
  split at h <;> try exact h.elim
  rename_i i hi
  split at h <;> try exact h.elim
  rename_i z hz
  obtain ⟨h1, h2⟩ := (tiOf_ok (hT _ _ hi)).z _ hz
  exact opOK_alloc ho h1 h2 h
theorem fillF_ok {t : TypeId} {ti : TI} (hti : TIok P t ti) : ∀ (parts : List (Nat × A)) (cells res : List A), fillF ti.fs cells parts = some res → fillA P t cells parts = some res
  | [], cells, res, h => h
  | (i, x) :: rest, cells, res, h => by
    unfold fillF at h
    split at h <;> try simp at h
    rename_i off s g hf
    obtain ⟨h1, h2, h⟩ := h
    unfold fillA
    rw [hti.fs _ _ hf]
    dsimp only
    rw [if_neg (by omega)]
    exact fillF_ok hti rest _ _ (by rw [List.append_assoc]; exact h)
theorem VOK_buildArr {t : TypeId} {parts : Array (Nat × Operand)} {z : Array Value} {ar : Nat × Nat} (ho : o.op = .build t parts) (hp : parts = #[])
    (hz : zeroT P t = some (.agg z)) (hzv : okV (.agg z) = true) (ha : arT P t = some ar) : VOK P o S (.agg (z.toList.map cellA)) := by
  refine fun E G gs a w hi => ⟨.agg z, ?_, ?_⟩
  · unfold arT at ha
    split at ha
    case h_2 => cases ha
    rename_i n' e hu
    obtain ⟨s', hs, hns⟩ := Option.map_eq_some_iff.1 ha
    intro w' hw'
    subst hp
    simp [execOp, ho, Instr.build, run_zero hz, run_underlying hu, run_sizeOf hs, Instr.fill, Value.cells]
  · have := TRel.agg (TRelL.of (rows := S.rows) (gs := gs) (relL_cells (w := w) (G := G) z.toList hzv))
    simpa using this
theorem vBuild_ok {k : A → Prop} (hT : TabOK P T) {t : TypeId} {parts : Array (Nat × Operand)} (ho : o.op = .build t parts) (h : vBuild T t (parts.toList.map fun p => (p.1, ev S p.2)) k) : ∃ z, VOK P o S z ∧ k z := by
  unfold vBuild at h
  split at h <;> try exact h.elim
  rename_i i hi
  have hti := tiOf_ok (hT _ _ hi)
  split at h <;> try exact h.elim
  rename_i z hz
  split at h
  · split at h <;> try exact h.elim
    rename_i ar hp ha hnil
    exact ⟨_, VOK_buildArr ho (by simpa using hnil) (hti.z _ hz).1 (hti.z _ hz).2 (hti.ar.trans ha), h⟩
  rename_i hne
  split at h <;> try exact h.elim
  rename_i hok
  split at h <;> try exact h.elim
  rename_i res hres
  refine ⟨_, VOK_build ho (fun _ _ => rfl) (hti.z _ hz).1 (hti.z _ hz).2 (hti.pl (by simpa using hne)) (fun p hp => ?_) (fillF_ok hti _ _ _ hres), h⟩
  have := List.all_eq_true.1 hok (p.1, ev S p.2) (List.mem_map.2 ⟨p, hp, rfl⟩)
  exact this
theorem vConv_ok {k : A → Prop} (hT : TabOK P T) {src dst : TypeId} {x : Operand} (ho : o.op = .convert src dst x) (h : vConv std T src dst S (ev S x) k) : ∃ z, VOK P o S z ∧ k z := by
  unfold vConv at h
  split at h <;> try exact h.elim
  rename_i i j hi hj
  have hti := tiOf_ok (hT _ _ hi)
  have htj := tiOf_ok (hT _ _ hj)
  split at h <;> try exact h.elim
  · rename_i kk n hx
    split at h <;> try exact h.elim
    rename_i k2 hk
    exact ⟨_, VOK_convI ho hti.ag (htj.kind.trans hk) hx, h⟩
  · rename_i s hx
    split at h <;> try exact h.elim
    rename_i hc
    simp only [Bool.and_eq_true] at hc
    exact ⟨_, VOK_convS ho (hti.str.trans hc.1) (htj.str.trans hc.2) hx, h⟩
  · rename_i r off len hx
    split at h <;> try exact h.elim
    rename_i row e0 e hr hs
    obtain ⟨he, hte⟩ := szEl_ok hT hs
    split at h <;> try exact h.elim
    rename_i hk
    split at h <;> try exact h.elim
    rename_i hc
    obtain ⟨ns, ⟨h1, h2⟩, h⟩ := h
    exact ⟨_, VOK_bytesStr_vw ho he (hte.kind.trans hk) (htj.str.trans hc.2) hx hr hc.1 h1 h2, h⟩
  · rename_i n xs hx
    split at h <;> try exact h.elim
    rename_i e0 e hs
    obtain ⟨he, hte⟩ := szEl_ok hT hs
    split at h <;> try exact h.elim
    rename_i hk
    split at h <;> try exact h.elim
    rename_i hc
    obtain ⟨ns, h2, h⟩ := h
    exact ⟨_, VOK_bytesStr_sl ho he (hte.kind.trans hk) (htj.str.trans hc.2) hx hc.1 h2, h⟩
end
end Go.Fw

/- The reckoning is sound: memory, calls, codes. Plain theorems, no condition. -/
set_option linter.unusedVariables false
set_option linter.unusedSimpArgs false
namespace Go.Fw
section
variable {P : Program} {T : Nat → Option TI} {S : State} {o : Oper} {K : State → Prop}
theorem stashL_nil (S : State) : stashL S [] = (True, [], S, []) := by rw [stashL]
theorem stashL_cons (S : State) (x : A) (xs : List A) : stashL S (x :: xs) = ((stash1 S x).1 ∧ (stashL (stash1 S x).2.2.1 (xs.map (kills (stash1 S x).2.2.2))).1, (stash1 S x).2.1 :: (stashL (stash1 S x).2.2.1 (xs.map (kills (stash1 S x).2.2.2))).2.1,
    (stashL (stash1 S x).2.2.1 (xs.map (kills (stash1 S x).2.2.2))).2.2.1, (stash1 S x).2.2.2 ++ (stashL (stash1 S x).2.2.1 (xs.map (kills (stash1 S x).2.2.2))).2.2.2) := by rw [stashL]
theorem vStash_ok : ∀ (n : Nat) (xs : List A) (S : State) (k : List A → State → List Nat → Prop), vStash std n S xs k → (stashL S xs).1 ∧ k (stashL S xs).2.1 (stashL S xs).2.2.1 (stashL S xs).2.2.2
  | _, [], S, k, h => by rw [stashL_nil]; exact ⟨trivial, by simpa [vStash] using h⟩
  | 0, _ :: _, S, k, h => by simp [vStash] at h
  | n + 1, x :: xs, S, k, h => by
    rw [stashL_cons]
    unfold vStash at h
    split at h
    · rename_i r off len
      split at h <;> try exact h.elim
      rename_i row hr
      split at h <;> try exact h.elim
      rename_i hlk
      obtain ⟨h1, h2⟩ := h
      have e : stash1 S (.vw r off len) = (off = 0 ∧ len ≤ row.xs.length ∧ row.lk = false, .sl true row.n (row.xs.take len), S.turn r none, [r]) := by simp [stash1, hr]
      rw [e]
      have := vStash_ok n _ _ _ h2
      exact ⟨⟨⟨h1.h.1, h1.h.2, by simpa using hlk⟩, this.1⟩, this.2⟩
    · rename_i r j q
      split at h <;> try exact h.elim
      rename_i row hr
      split at h <;> try exact h.elim
      rename_i hb
      simp only [Bool.and_eq_true, Nat.beq_eq] at hb
      have e : stash1 S (.pt r j q) = (j = 0 ∧ q = 0 ∧ row.xs.length = 1 ∧ row.lk = true ∧ (flat row.xs).all isData = true, .bx (flat row.xs), S.turn r none, [r]) := by simp [stash1, hr]
      rw [e]
      have := vStash_ok n _ _ _ h
      exact ⟨⟨⟨hb.1, hb.2.1, hb.2.2.1, hb.2.2.2.1, hb.2.2.2.2⟩, this.1⟩, this.2⟩
    · rename_i hnv hnp
      split at h <;> try exact h.elim
      rename_i hd
      have e : stash1 S x = (isData x = true, x, S, []) := by
        cases x <;> first | rfl | (rename_i r off len; exact (hnv r off len rfl).elim) | (rename_i r off len; exact (hnp r off len rfl).elim)
      rw [e]
      have hk : kills [] = id := by funext y; rfl
      simp only [hk, List.map_id]
      have := vStash_ok n _ _ _ h
      exact ⟨⟨hd, this.1⟩, this.2⟩
theorem vStore_ok (hT : TabOK P T) {t : TypeId} {x y : Operand} (ho : o.op = .store t x y) (h : vStore std T t S (ev S x) (ev S y) fun S' => K (S'.put o.dst .un)) : opOK P o S K := by
  unfold vStore at h
  split at h <;> try exact h.elim
  rename_i i r j q hi hx
  have hti := tiOf_ok (hT _ _ hi)
  split at h <;> try exact h.elim
  rename_i row hr
  split at h <;> try exact h.elim
  rename_i hlen
  split at h <;> try exact h.elim
  rename_i hpos
  split at h <;> try exact h.elim
  rename_i hq
  split at h <;> try exact h.elim
  rename_i hok
  split at h
  · rename_i hlk
    split at h <;> try exact h.elim
    rename_i z hz
    exact opOK_store ho rfl rfl hx hr hlk hz hti.sz hlen hpos hq hok h
  · rename_i hlk
    obtain ⟨hc, h⟩ := vStash_ok _ _ _ _ h
    have hys : ∀ z, row.xs[j]? = some z → r ∉ (stashL S (ev S y).cells).2.2.2 → K (((stashL S (ev S y).cells).2.2.1.setRow r { row with xs := row.xs.set j (newElem z q (stashL S (ev S y).cells).2.1) }).put o.dst .un) → opOK P o S K := fun z hz hne h =>
      opOK_storeD ho rfl rfl hx hr hlk hz hti.sz hlen hpos hq hok hc hne h
    split at h <;> try exact h.elim
    rename_i hne
    have hne' : r ∉ (stashL S (ev S y).cells).2.2.2 := fun hm => hne (List.contains_iff_mem.2 hm)
    have hall : ∀ c ∈ (ev S y).cells, okCell c = true := List.all_eq_true.1 hok
    have hcl := stashL_cells _ (ev S y).cells S rfl hc (fun c hc => okCell_not (hall c hc))
    split at h
    · rename_i hfull
      obtain ⟨h1, h2⟩ := h
      obtain ⟨hj, hag⟩ := h1.h
      have hz : row.xs[j]? = some (row.xs[j]) := List.getElem?_eq_getElem hj
      refine hys _ hz hne' ?_
      have ha := hag _ (List.getElem_mem hj)
      have : newElem row.xs[j] q (stashL S (ev S y).cells).2.1 = .agg (stashL S (ev S y).cells).2.1 := by
        generalize row.xs[j] = z at ha
        cases z <;> try (simp [isAggN] at ha; done)
        rename_i xs
        simp only [isAggN, beq_iff_eq] at ha
        have hl : (stashL S (ev S y).cells).2.1.length = xs.length := by rw [hcl.1, hlen, hfull.2.1, ha]
        simp [newElem, hfull.1, hl]
      rw [this]; exact h2
    · split at h
      · rename_i hn1
        obtain ⟨h1, h2⟩ := h
        obtain ⟨hj, hag⟩ := h1.h
        have hz : row.xs[j]? = some (row.xs[j]) := List.getElem?_eq_getElem hj
        refine hys _ hz hne' ?_
        have ha := hag _ (List.getElem_mem hj)
        have : newElem row.xs[j] q (stashL S (ev S y).cells).2.1 = (stashL S (ev S y).cells).2.1.headD .un := by
          generalize row.xs[j] = z at ha
          cases z <;> first | rfl | (simp [vStore.isAggA] at ha)
        rw [this]; exact h2
      · obtain ⟨z, hz, h⟩ := h
        exact hys z hz hne' h
theorem vBuildSlice_ok (hT : TabOK P T) {t : TypeId} {len : Nat} {parts : Array (Nat × Operand)} (ho : o.op = .buildSlice t len parts)
    (h : vBuildSlice std T t len (parts.toList.map fun p => (p.1, ev S p.2)) S fun z S' => K (S'.put o.dst z)) : opOK P o S K := by
  unfold vBuildSlice at h
  split at h <;> try exact h.elim
  rename_i e ti hs
  obtain ⟨he, hti⟩ := szEl_ok hT hs
  split at h <;> try exact h.elim
  rename_i hc
  obtain ⟨h1, h2, h3, h4, h5, h6, h7⟩ := hc
  obtain ⟨z, hz⟩ := Option.isSome_iff_exists.1 h1
  have e1 : (parts.toList.map fun p => (p.1, ev S p.2)).map (·.2) = parts.toList.map fun p => ev S p.2 := by simp
  have e2 : (parts.toList.map fun p => (p.1, ev S p.2)).map (·.1) = parts.toList.map (·.1) := by simp
  rw [e1] at h h7
  rw [e2] at h5
  rw [List.length_map] at h4
  obtain ⟨hst, h⟩ := vStash_ok _ _ _ _ h
  refine opOK_buildSlice ho (fun _ _ => rfl) (by rw [h5, h4]) h4 he hti.sz (hti.z _ hz).1 h2 h3 (fun p hp => ?_) h7 hst h
  have := List.all_eq_true.1 h6 (p.1, ev S p.2) (List.mem_map.2 ⟨p, hp, rfl⟩)
  simpa using this
theorem vMake_ok (hT : TabOK P T) {t : TypeId} {x y : Operand} (ho : o.op = .makeSlice t x y) (h : vMake std T t (ev S x) (ev S y) S fun z S' => K (S'.put o.dst z)) : opOK P o S K := by
  unfold vMake at h
  split at h <;> try exact h.elim
  rename_i e ti k a k' b hs hx hy
  obtain ⟨he, hti⟩ := szEl_ok hT hs
  split at h <;> try exact h.elim
  rename_i z hz
  split at h <;> try exact h.elim
  rename_i hw
  obtain ⟨h0, h⟩ := h
  obtain ⟨rfl, h1, h2, h3⟩ := h0.h
  have ea : (a.toNat : Int) = a := Int.toNat_of_nonneg h1
  exact opOK_makeSlice (n := a.toNat) ho rfl rfl (by rw [hx, ea]) (by rw [hy, ea]) he hti.sz (hti.z _ hz).1 (hti.z _ hz).2 hw.1 hw.2 (by rw [hti.bytes]; exact h2) h3 h
theorem vLo_ok {x : Option A} {d : Nat} {k : (Unit → Prop) → Nat → Prop} (h : vLo std x d k) : ∃ c l, k c l ∧ (c () → bnd x d = some (l : Int)) := by
  unfold vLo at h
  split at h
  · exact ⟨_, _, h, fun _ => rfl⟩
  · rename_i kk n
    exact ⟨_, _, h, fun h0 => by show some n = _; rw [show (std.nat n : Int) = n from Int.toNat_of_nonneg h0]⟩
  · exact h.elim
theorem vSlice_ok {k : A → Prop} (hT : TabOK P T) {t : TypeId} {x : Operand} {lo hi : Option Operand} (ho : o.op = .slice t x lo hi none) (h : vSlice std T t S (ev S x) (lo.map (ev S)) (hi.map (ev S)) k) : ∃ z, VOK P o S z ∧ k z := by
  have ok : ∀ x : Option Operand, okOpt x = true := fun x => by cases x <;> rfl
  unfold vSlice at h
  split at h <;> try exact h.elim
  rename_i ti hi'
  have hti := tiOf_ok (hT _ _ hi')
  split at h <;> try exact h.elim
  · rename_i s hx
    split at h <;> try exact h.elim
    rename_i hs
    obtain ⟨c1, l, h, g1⟩ := vLo_ok h
    obtain ⟨c2, u, h, g2⟩ := vLo_ok h
    obtain ⟨h0, h⟩ := h
    obtain ⟨h1, h2, h3, h4⟩ := h0.h
    exact ⟨_, VOK_slice_str ho rfl (ok _) (ok _) (by rw [hti.str]; exact hs) hx (g1 h1) (g2 h2) h3 h4, h⟩
  · rename_i r off len hx
    split at h <;> try exact h.elim
    rename_i row e ei hr hs
    obtain ⟨he, hei⟩ := szEl_ok hT hs
    split at h <;> try exact h.elim
    rename_i hn
    obtain ⟨c1, l, h, g1⟩ := vLo_ok h
    obtain ⟨c2, u, h, g2⟩ := vLo_ok h
    obtain ⟨h0, h⟩ := h
    obtain ⟨h1, h2, h3, h4⟩ := h0.h
    exact ⟨_, VOK_slice_vw ho rfl (ok _) (ok _) hx hr he (by rw [hei.sz, hn]) (g1 h1) (g2 h2) h3 h4, h⟩
  · rename_i n xs hx
    split at h <;> try exact h.elim
    rename_i e ei hs
    obtain ⟨he, hei⟩ := szEl_ok hT hs
    split at h <;> try exact h.elim
    rename_i hn
    obtain ⟨c1, l, h, g1⟩ := vLo_ok h
    obtain ⟨c2, u, h, g2⟩ := vLo_ok h
    obtain ⟨h0, h⟩ := h
    obtain ⟨h1, h2, h3, h4⟩ := h0.h
    exact ⟨_, VOK_slice_sl ho rfl (ok _) (ok _) hx he (by rw [hei.sz, hn]) (g1 h1) (g2 h2) h3 h4, h⟩
theorem VOK_makeFunc {fn : FuncId} {first caps : Array Operand} (ho : o.op = .makeFunc (.func fn) first caps) (hf : first.toList = []) (hg : fn < 1000000) : VOK P o S (.clo fn (caps.toList.map (ev S))) := by
  refine fun E G gs a w hi => ⟨mkFn fn (caps.toList.map a.eval), fun w' hw' => ?_, .clo (evs_rel hi caps.toList)⟩
  have : first = #[] := by apply Array.toList_inj.1; simpa using hf
  subst this
  have e : (caps.toList.map a.eval).toArray = caps.map a.eval := by apply Array.toList_inj.1; simp
  unfold mkFn
  rw [if_pos hg, e]
  simp [execOp, ho, Instr.makeFunc]
theorem VOK_makeBound {fn : FuncId} {first caps : Array Operand} (ho : o.op = .makeFunc (.func fn) first caps) (hf : caps.toList = []) (hg : fn < 1000000) : VOK P o S (.clo (1000000 + fn) (first.toList.map (ev S))) := by
  refine fun E G gs a w hi => ⟨mkFn (1000000 + fn) (first.toList.map a.eval), fun w' hw' => ?_, .clo (evs_rel hi first.toList)⟩
  have : caps = #[] := by apply Array.toList_inj.1; simpa using hf
  subst this
  have e : (first.toList.map a.eval).toArray = first.map a.eval := by apply Array.toList_inj.1; simp
  unfold mkFn
  rw [if_neg (by omega), e, Nat.add_mod_left, Nat.mod_eq_of_lt hg]
  simp [execOp, ho, Instr.makeFunc]
theorem vMakeFn_ok {k : A → Prop} {f : Fn} {first caps : Array Operand} (ho : o.op = .makeFunc f first caps) (h : vMakeFn f (first.toList.map (ev S)) (caps.toList.map (ev S)) k) : ∃ z, VOK P o S z ∧ k z := by
  unfold vMakeFn at h
  split at h <;> try exact h.elim
  · rename_i g hf
    split at h <;> try exact h.elim
    rename_i hg
    exact ⟨_, VOK_makeFunc ho (by simpa using hf) hg, h⟩
  · split at h <;> try exact h.elim
    rename_i hc
    split at h <;> try exact h.elim
    rename_i hg
    exact ⟨_, VOK_makeBound ho (by simpa using hc) hg, h⟩
theorem vLoadS_ok (hT : TabOK P T) {t : TypeId} {x : Operand} (ho : o.op = .load t x) (h : vLoadS std T t S (ev S x) fun z S' => K (S'.put o.dst z)) : opOK P o S K := by
  unfold vLoadS at h
  split at h <;> try exact h.elim
  rename_i i hi
  have hti := tiOf_ok (hT _ _ hi)
  split at h <;> try exact h.elim
  · rename_i xs hx
    split at h
    · rename_i hag
      split at h <;> try exact h.elim
      rename_i hle
      exact opOK_of (VOK_load_rpAgg ho rfl hx (by rw [hti.ag, hag]) hti.sz hle) h
    · rename_i hag
      split at h <;> try exact h.elim
      rename_i z hz
      exact opOK_of (VOK_load_rp ho rfl hx (by rw [hti.ag]; simpa using hag) hz) h
  · rename_i r j q hx
    split at h <;> try exact h.elim
    rename_i row hr
    split at h
    · split at h <;> try exact h.elim
      rename_i y hy
      unfold vCell at h
      split at h
      · rename_i hag
        split at h <;> try exact h.elim
        rename_i hq
        split at h <;> try exact h.elim
        rename_i hno
        exact opOK_of (VOK_load_ptAgg ho rfl hx hr hy (by rw [hti.ag, hag]) hti.sz hq hno) h
      · rename_i hag
        split at h <;> try exact h.elim
        rename_i z hz
        split at h <;> try exact h.elim
        rename_i hno
        exact opOK_of (VOK_load_pt ho rfl hx hr hy (by rw [hti.ag]; simpa using hag) hz hno) h
    · rename_i hlk
      obtain ⟨y, hy, h⟩ := h
      unfold vCellS at h
      split at h
      · rename_i hag
        split at h <;> try exact h.elim
        rename_i hq
        split at h <;> try exact h.elim
        rename_i hno
        exact opOK_of (VOK_load_ptAgg ho rfl hx hr hy (by rw [hti.ag, hag]) hti.sz hq hno) h
      · rename_i hag
        split at h <;> try exact h.elim
        · rename_i n ys hz
          exact opOK_take ho hx hr hlk hy (by rw [hti.ag]; simpa using hag) hz h
        · rename_i z hnz hz
          split at h <;> try exact h.elim
          rename_i hno
          exact opOK_of (VOK_load_pt ho rfl hx hr hy (by rw [hti.ag]; simpa using hag) hz hno) h
theorem of_V (h : ∃ z, VOK P o S z ∧ K (S.put o.dst z)) : opOK P o S K := let ⟨_, h1, h2⟩ := h; opOK_of h1 h2
theorem constA_width (z : Value) : (constA z).width = z.cells.size := by
  unfold constA
  split
  · simp [A.width, A.cells, Value.cells]
  · rename_i hn
    have : z.cells.size = 1 := by cases z <;> first | rfl | (rename_i cs; exact (hn cs rfl).elim)
    rw [this]
    unfold cellA
    split <;> rfl
theorem zOK_ok {t : TypeId} {ti : TI} (hti : TIok P t ti) (h : zOK ti = true) : ∃ z, zeroT P t = some z ∧ z.cells.size = ti.sz ∧ 0 < ti.sz := by
  unfold zOK at h
  split at h <;> try simp at h
  rename_i z hz
  exact ⟨z, (hti.z _ hz).1, by rw [← constA_width]; exact h.1, h.2⟩
theorem vAppend_ok (hT : TabOK P T) {t : TypeId} {x y : Operand} {mv : Bool} (ho : o.op = .call { callee := .builtin .append, args := #[x, y], argTypes := #[t, t] })
    (h : vAppend std T t mv S (ev S x) (ev S y) fun z S' => K (S'.put o.dst z)) : opOK P o S K := by
  unfold vAppend at h
  split at h <;> try exact h.elim
  rename_i e ti hs
  obtain ⟨he, hti⟩ := szEl_ok hT hs
  split at h <;> try exact h.elim
  rename_i hzok
  obtain ⟨z, hz, hzs, hsp⟩ := zOK_ok hti hzok
  have hseg : ∀ {off len : Nat} {xs : List A}, std.seg off (std.plus off len) xs = (xs.drop off).take len := by
    intro off len xs
    show (xs.take (off + len)).drop off = _
    rw [List.drop_take, Nat.add_sub_cancel_left]
  have hlen : ∀ {off len : Nat} {xs : List A}, off + len ≤ xs.length → ((xs.drop off).take len).length = len := by
    intro off len xs h; simp; omega
  split at h <;> try exact h.elim
  · rename_i r off len hx
    split at h <;> try exact h.elim
    rename_i row hr
    split at h <;> try exact h.elim
    rename_i hc
    obtain ⟨rfl, hn, hlk⟩ := hc
    rw [hn] at hzs hsp
    have hsz : szT P e = some row.n := by rw [hti.sz, hn]
    split at h <;> try exact h.elim
    · rename_i r2 off2 len2 hy
      split at h <;> try exact h.elim
      rename_i row2 hr2
      split at h <;> try exact h.elim
      rename_i hc2
      obtain ⟨rfl, hlk2, hne, hn2⟩ := hc2
      obtain ⟨h0, h⟩ := h
      obtain ⟨h1, h2, h3, h4⟩ := h0.h
      exact opOK_append_move ho rfl rfl hx hr hlk hy hr2 h1 hlk2 hne hn2 h2 he hsz hz hzs hsp (by rw [hti.bytes]; exact h3) h4 h
    · rename_i hy
      obtain ⟨h0, h⟩ := h
      refine opOK_append (xs2 := []) ho rfl rfl hx hr hlk (by rw [hy]; rfl) (.inl hy) (by simp) (by rw [hy]; simp) (by simp [flat]) he hsz hz hzs hsp (by rw [hti.bytes]; exact h0.h.1) h0.h.2 ?_
      simp only [List.append_nil, List.length_nil, Nat.add_zero]
      exact h
    · rename_i n xs2 hy
      split at h <;> try exact h.elim
      rename_i hn2
      obtain ⟨h0, h⟩ := h
      obtain ⟨h1, h2, h3, h4⟩ := h0.h
      exact opOK_append ho rfl rfl hx hr hlk (by rw [hy]; rfl) (.inr (by rw [hy, ← hn2]; rfl)) h1 (by rw [hy]; simp) h2 he hsz hz hzs hsp (by rw [hti.bytes]; exact h3) h4 h
    · rename_i r2 off2 len2 hmv hy
      split at h <;> try exact h.elim
      rename_i row2 hr2
      split at h <;> try exact h.elim
      rename_i hc2
      obtain ⟨hlk2, hn2⟩ := hc2
      obtain ⟨h0, h⟩ := h
      obtain ⟨h1, h2, h3, h4, h5⟩ := h0.h
      refine opOK_append (xs2 := (row2.xs.drop off2).take len2) ho rfl rfl hx hr hlk (by rw [hy]; simp [elemsA, hr2]) (.inr (by rw [hy]; simp [nA, hr2, hn2])) h2
        (fun r3 o3 l3 row3 h3 h4 => by rw [hy] at h3; cases h3; rw [hr2] at h4; cases h4; exact hlk2) h3 he hsz hz hzs hsp (by rw [hti.bytes, hlen h1]; exact h4) (by rw [hlen h1]; exact h5) ?_
      rw [hseg] at h
      rw [hlen h1]; exact h
  · rename_i hx
    split at h <;> try exact h.elim
    · rename_i hy
      refine opOK_value (P := P) .nil h fun E G gs a w hi => ?_
      have e1 := ev_rel hi x rfl
      rw [hx] at e1
      have v1 : a.eval x = .slice none 0 0 := by
        generalize a.eval x = v at e1
        cases e1 with | of h => cases h; rfl
      have e2 := ev_rel hi y rfl
      rw [hy] at e2
      obtain ⟨news, hsrc, _⟩ := source_ok hi (s := ti.sz) e2 rfl (.inl rfl) (by simp) (by simp) (by simp [flat])
      refine ⟨_, exec_append ho ?_, .of .nil⟩
      rw [v1]
      exact run_append_nil0 he hti.sz hsrc
    · rename_i n xs2 hy
      split at h <;> try exact h.elim
      rename_i hn2
      obtain ⟨h0, h⟩ := h
      obtain ⟨h1, h2, h3, h4⟩ := h0.h
      exact opOK_append_nil ho rfl rfl hx (by rw [hy]; rfl) (.inr (by rw [hy, ← hn2]; rfl)) h1 (by rw [hy]; simp) h2 he hti.sz hz hzs hsp (by rw [hti.bytes]; exact h3) h4 h
    · rename_i r2 off2 len2 hy
      split at h <;> try exact h.elim
      rename_i row2 hr2
      split at h <;> try exact h.elim
      rename_i hc2
      obtain ⟨hlk2, hn2⟩ := hc2
      obtain ⟨h0, h⟩ := h
      obtain ⟨h1, h2, h3, h4, h5⟩ := h0.h
      refine opOK_append_nil (xs2 := (row2.xs.drop off2).take len2) ho rfl rfl hx (by rw [hy]; simp [elemsA, hr2]) (.inr (by rw [hy]; simp [nA, hr2, hn2])) h2
        (fun r3 o3 l3 row3 h3 h4 => by rw [hy] at h3; cases h3; rw [hr2] at h4; cases h4; exact hlk2) h3 he hti.sz hz hzs hsp (by rw [hti.bytes, hlen h1]; exact h4) (by rw [hlen h1]; exact h5) ?_
      rw [hseg] at h
      rw [hlen h1]; exact h
theorem call_eq {ci : Call} {c : Callee} {ags : List Operand} {ts : List TypeId} (h1 : ci.callee = c) (h2 : ci.args.toList = ags) (h3 : ci.argTypes.toList = ts) : ci = ⟨c, ags.toArray, ts.toArray⟩ := by
  cases ci with | mk a b d => subst h1; subst h2; subst h3; rfl
theorem vConvN_ok (hT : TabOK P T) {src dst : TypeId} {x : Operand} (ho : o.op = .convert src dst x) (h : vConvN std T src dst S (ev S x) fun z => K (S.put o.dst z)) : opOK P o S K := by
  unfold vConvN at h
  split at h
  · rename_i e ti s hs hx
    obtain ⟨he, hti⟩ := szEl_ok hT hs
    split at h <;> try exact h.elim
    rename_i i hk hi
    have hi' := tiOf_ok (hT _ _ hi)
    split at h <;> try exact h.elim
    rename_i hstr
    obtain ⟨xs, h0, h⟩ := h
    obtain ⟨rfl, hm⟩ := h0.h
    exact opOK_strBytes ho (by rw [hi'.str]; exact hstr) he (by rw [hti.kind]; exact hk) hx hm h
  · exact of_V (vConv_ok hT ho h)
theorem opOK_max {ci : Call} {x y : Operand} {kk k2 : IntKind} {p q : Int} (ho : o.op = .call ci) (hf : ci.callee = .builtin .max) (ha : ci.args.toList = [x, y]) (h1 : ev S x = .sc (.int kk p)) (h2 : ev S y = .sc (.int k2 q))
    (hK : K (S.put o.dst (.sc (.int kk (if q > p then q else p))))) : opOK P o S K := by
  refine opOK_value (P := P) _ hK fun E G gs a w hi => ?_
  have e1 := ev_rel hi x rfl
  have e2 := ev_rel hi y rfl
  rw [h1] at e1
  rw [h2] at e2
  have v1 := (sc_inv e1).1
  have v2 := (sc_inv e2).1
  have hargs : ci.args = #[x, y] := by apply Array.toList_inj.1; simpa using ha
  refine ⟨_, ?_, .of (.sc rfl)⟩
  simp [execOp, ho, resolve, hf, hargs, v1, v2, invoke, builtin, Builtin.max_, Builtin.max2]
theorem vCall_ok (hT : TabOK P T) {mv : Option Nat} {ci : Call} (ho : o.op = .call ci) (h : vCall std P T mv S ci.callee ci.args.toList ci.argTypes.toList fun z S' => K (S'.put o.dst z)) : opOK P o S K := by
  unfold vCall at h
  split at h <;> try exact h.elim
  · rename_i g hf
    split at h <;> try exact h.elim
    rename_i hg
    have he : ev S (.func g) = .clo g [] := if_pos hg
    refine opOK_call ho hf he ?_
    unfold cloN cloA
    rw [if_pos hg, if_pos hg, List.append_nil]
    exact h.h
  · rename_i f hnf hf
    split at h <;> try exact h.elim
    rename_i g caps he
    exact opOK_call ho hf he h.h
  · rename_i hf
    split at h <;> try exact h.elim
    rename_i x t h1 h2
    unfold vClear at h
    split at h <;> try exact h.elim
    rename_i e ti r off len hs hx
    obtain ⟨he, hti⟩ := szEl_ok hT hs
    split at h <;> try exact h.elim
    rename_i row z hr hz
    split at h <;> try exact h.elim
    rename_i hc
    obtain ⟨hlk, hn, hsz, hza⟩ := hc
    obtain ⟨h0, h⟩ := h
    obtain ⟨hl, hna⟩ := h0.h
    rw [call_eq hf h1 h2] at ho
    obtain ⟨hz1, hz2⟩ := hti.z _ hz
    exact opOK_clear ho hx hr hlk hn hl hna he hz1 hz2 hza h
  · rename_i hf
    split at h <;> try exact h.elim
    rename_i x t h1 h2
    exact of_V (vLen_ok hT ho hf h1 h2 h)
  · rename_i hf
    split at h <;> try exact h.elim
    rename_i kk p k2 q hm
    cases hl : ci.args.toList with
    | nil => rw [hl] at hm; simp at hm
    | cons x l => cases l with
      | nil => rw [hl] at hm; simp at hm
      | cons y l => cases l with
        | cons z l => rw [hl] at hm; simp at hm
        | nil =>
          rw [hl] at hm
          simp only [List.map_cons, List.map_nil, List.cons.injEq, and_true] at hm
          exact opOK_max ho hf hl hm.1 hm.2 h
  · rename_i hf
    split at h <;> try exact h.elim
    rename_i x y t t' h1 h2
    split at h <;> try exact h.elim
    rename_i ht
    subst ht
    rw [call_eq hf h1 h2] at ho
    exact vAppend_ok hT ho h
theorem vOp_ok (hT : TabOK P T) {mv : Option Nat} (h : vOp std P T mv o S K) : opOK P o S K := by
  unfold vOp at h
  split at h
  · rename_i x ho; exact opOK_of (VOK_move (.inl ho) rfl) h
  · rename_i x ho; exact opOK_of (VOK_move (.inr ho) rfl) h
  · rename_i ho; exact of_V (vPick_ok ho h)
  · rename_i ho; exact of_V (vUn_ok ho h)
  · rename_i ho; exact vBinN_ok hT ho h
  · rename_i ho; exact vLoadS_ok hT ho h
  · rename_i ho; exact of_V (vFieldAddr_ok hT ho h)
  · rename_i ho; exact of_V (vField_ok hT ho h)
  · rename_i ho; exact of_V (vIndexAddr_ok hT ho h)
  · rename_i ho; exact of_V (vIndex_ok hT ho h)
  · rename_i ho; exact of_V (vExtract_ok ho h)
  · rename_i ho; exact of_V (vNilCheck_ok ho h)
  · rename_i ho; exact vBox_ok ho h
  · rename_i ho; exact vAlloc_ok hT ho h
  · rename_i ho; exact of_V (vBuild_ok hT ho h)
  · rename_i ho; exact vStore_ok hT ho h
  · rename_i ho; exact vBuildSlice_ok hT ho h
  · rename_i ho; exact vMake_ok hT ho h
  · rename_i ho; exact of_V (vSlice_ok hT ho h)
  · rename_i ho; exact vConvN_ok hT ho h
  · rename_i ho; exact of_V (vMakeFn_ok ho h)
  · rename_i ho; exact vCall_ok hT ho h
  · exact h.h
theorem brB_ok {p : Bool} {X Y : Unit → Prop} (h : brB p X Y) : (p = true → X ()) ∧ (p = false → Y ()) := by
  cases p with
  | true => exact ⟨fun _ => h, (fun h => by cases h)⟩
  | false => exact ⟨(fun h => by cases h), fun _ => h⟩
/-- At a fork: told which way. -/
theorem br {p : Bool} {X Y : Prop} (hx : p = true → X) (hy : p = false → Y) : match (generalizing := false) p with | true => X | false => Y := by
  cases p with
  | true => exact hx rfl
  | false => exact hy rfl
/-- A temporary is told anew. -/
theorem Inv.retell {E : Env P} {G : Nat → Prop} {gs : Gh} {tmps : Array Value} {w : World} (hi : Inv E G gs S tmps w) {i : Nat} {x : A} (hx : TRel w G S.rows gs x (vat E tmps i) []) (hN : i < S.N) :
    Inv E G gs (S.put (some i) x) tmps w := by
  unfold State.put
  dsimp only
  rw [if_pos hN]
  refine ⟨hi.keep, hi.os, hi.tape, hi.output, hi.size, hi.sz, hi.gsub, hi.gnew, hi.glt, hi.row, hi.nod, hi.own, hi.dis, fun j => ?_⟩
  show TRel w G S.rows gs (lk ((i, x) :: S.t) j) _ []
  simp only [lk]
  split
  · rename_i h; subst h; exact hx
  · exact hi.tmp j
theorem tup_undef (w : World) (G : Nat → Prop) (rows : List (Option Row)) {gs : Gh} : TRel w G rows gs (.tup []) undef [] := TRel.tup (cs := []) .nil
theorem vOps_ok (hT : TabOK P T) (ops : List Oper) : ∀ (os : List Oper) (mv : Option Nat) (S : State) (K : Exit → State → Prop), vOps std P T ops mv os S (K .normal) →
    ∀ (E : Env P) a w, SInv E S a w → wpList P ops.toArray (fun e a' w' => ∃ S', SInv E S' a' w' ∧ K e S') os a w
  | [], mv, S, K, h, E, a, w, hs => ⟨S, hs, h⟩
  | o :: os, mv, S, K, h, E, a, w, hs => by
    have wanted : ∀ S', SInv E S' a w → ∀ mv, vOp std P T mv o S' (fun S'' => vOps std P T ops (madeBy o) os S'' (K .normal)) → Region.wanted o (yielded ops.toArray a.tmps) = true →
        wpList P ops.toArray (fun e a' w' => ∃ S', SInv E S' a' w' ∧ K e S') (o :: os) a w := fun S' hs mv h hw => by
      refine wpList_step fun K' hK' => ?_
      rw [if_pos hw]
      exact vOp_ok hT h E a w K' _ hs fun S' a' w' h1 h2 => hK' _ _ (vOps_ok hT ops os _ S' K h1 E a' w' h2)
    have skipped : ∀ S' mv, SInv E S' a w → vOps std P T ops mv os (S'.put o.dst (.tup [])) (K .normal) → Region.wanted o (yielded ops.toArray a.tmps) = false →
        wpList P ops.toArray (fun e a' w' => ∃ S', SInv E S' a' w' ∧ K e S') (o :: os) a w := fun S' mv hs h hw => by
      refine wpList_step fun K' hK' => ?_
      rw [hw]
      obtain ⟨hd, G, gs, hi⟩ := hs
      exact hK' _ _ (vOps_ok hT ops os mv _ K h E _ w ⟨by rw [put_defers]; exact hd, G, gs, hi.put (tup_undef _ _ _) o.dst⟩)
    unfold vOps at h
    split at h
    · rename_i hg
      exact wanted S hs _ h (by simp [Region.wanted, hg])
    · rename_i j b hg
      split at h <;> try exact h.elim
      rename_i i hat
      split at h <;> try exact h.elim
      rename_i hN
      split at h <;> try exact h.elim
      case h_2 hp =>
        obtain ⟨hd, G, gs, hi⟩ := hs
        have ht := hi.tmp i
        rw [hp, hi.vat_tmp hN] at ht
        obtain ⟨cs, hv, hcs⟩ := tup_inv ht
        have hcs0 : cs = #[] := by
          have := hcs.length
          exact Array.eq_empty_of_size_eq_zero (by simpa using this)
        subst hcs0
        have hsz : i < a.tmps.size := by rw [hi.sz]; exact hN
        have h1 : ((ops.toArray[j]?).bind (·.dst)) = some i := by simpa [guardAt] using hat
        have hy : yielded ops.toArray a.tmps j = none := by
          unfold yielded
          rw [h1]
          rw [Array.getD_eq_getD_getElem?, Array.getElem?_eq_getElem hsz] at hv
          simp only [Option.getD_some] at hv
          simp [Array.getElem?_eq_getElem hsz, hv]
        exact skipped _ _ ⟨hd, G, gs, hi⟩ h (by simp [Region.wanted, hg, hy])
      rename_i p hp
      have hy : ∀ q, p = q → yielded ops.toArray a.tmps j = some q ∧ SInv E (S.put (some i) (.sc (.bool q))) a w := fun q hq => by
        subst hq
        obtain ⟨hd, G, gs, hi⟩ := hs
        have ht := hi.tmp i
        have ht' := ht
        rw [hp, hi.vat_tmp hN] at ht
        have hv := (sc_inv ht).1
        refine ⟨?_, hd, G, gs, hi.retell (by rw [hp] at ht'; exact ht') hN⟩
        have hsz : i < a.tmps.size := by rw [hi.sz]; exact hN
        have h1 : ((ops.toArray[j]?).bind (·.dst)) = some i := by simpa [guardAt] using hat
        unfold yielded
        rw [h1]
        rw [Array.getD_eq_getD_getElem?, Array.getElem?_eq_getElem hsz] at hv
        simp only [Option.getD_some] at hv
        simp [Array.getElem?_eq_getElem hsz, hv]
      obtain ⟨ht, hf⟩ := brB_ok h
      cases p with
      | true =>
        obtain ⟨hy1, hy2⟩ := hy true rfl
        have := ht rfl
        cases b with
        | true => exact wanted _ hy2 _ this (by simp [Region.wanted, hg, hy1])
        | false => exact skipped _ _ hy2 this (by simp [Region.wanted, hg, hy1])
      | false =>
        obtain ⟨hy1, hy2⟩ := hy false rfl
        have := hf rfl
        cases b with
        | true => exact skipped _ _ hy2 this (by simp [Region.wanted, hg, hy1])
        | false => exact wanted _ hy2 _ this (by simp [Region.wanted, hg, hy1])
theorem VC_region (hT : TabOK P T) {id : Nat} {ops : Array Oper} {K : Exit → State → Prop} (h : vOps std P T ops.toList none ops.toList S (K .normal)) : VC P (.region id ops false) S K := by
  intro E a w hs
  have := vOps_ok hT ops.toList ops.toList none S K h E a w hs
  exact wp_region_list (by simpa using this)
theorem VC_condO {x : Operand} {c d : Code} {K : Exit → State → Prop} {b : Bool} (hc : ev S x = .sc (.bool b)) (ht : b = true → VC P c S K) (hf : b = false → VC P d S K) : VC P (.cond x c d) S K := by
  intro E a w hs
  obtain ⟨hd, G, gs, hi⟩ := hs
  have h := ev_rel hi x rfl
  rw [hc] at h
  have hv := (sc_inv h).1
  cases b with
  | true => exact wp_cond_true hv (ht rfl E a w ⟨hd, G, gs, hi⟩)
  | false => exact wp_cond_false hv (hf rfl E a w ⟨hd, G, gs, hi⟩)
theorem vC_ok (hT : TabOK P T) : ∀ (c : Code) (S : State) (K : Exit → State → Prop), vC std P T c S K → VC P c S K
  | .skip, S, K, h => VC_skip h
  | .exit id, S, K, h => VC_exit h
  | .ret, S, K, h => VC_ret h
  | .seq x y, S, K, h => by
    refine VC_seq (VC.mono (vC_ok hT x S _ h) fun e S' h => ?_)
    cases e <;> first | exact vC_ok hT y _ _ h | exact h
  | .block id c, S, K, h => VC_block (vC_ok hT c S _ h)
  | .cond x c d, S, K, h => by
    unfold vC at h
    split at h <;> try exact h.elim
    rename_i p hp
    obtain ⟨h1, h2⟩ := brB_ok h
    exact VC_condO hp (fun hb => vC_ok hT c S K (h1 hb)) (fun hb => vC_ok hT d S K (h2 hb))
  | .region _ ops false, S, K, h => VC_region hT h
  | .region _ ops true, S, K, h => (show VCX P _ S K from h).h
  | .loop c, S, K, h => (show VCX P _ S K from h).h
  | .rangeFunc _ _ _ _, S, K, h => (show VCX P _ S K from h).h
  | .scope _, S, K, h => (show VCX P _ S K from h).h
  | .label _, S, K, h => (show VCX P _ S K from h).h
  | .goto _, S, K, h => (show VCX P _ S K from h).h
  | .refuse _, S, K, h => (show VCX P _ S K from h).h
/-- Where a walk begins. -/
theorem vstart (hT : TabOK P T) {Ω : Opq} (hΩ : Ω = std) {c : Code} {K : Exit → State → Prop} (h : vC Ω P T c S K) : VC P c S K := by
  subst hΩ; exact vC_ok hT c S K h
end
end Go.Fw

/- Contracts from the reckoning; states told otherwise. Plain theorems, no condition. -/
set_option linter.unusedVariables false
set_option linter.unusedSimpArgs false
namespace Go.Fw
section
variable {P : Program} {T : Nat → Option TI} {S : State} {o : Oper} {K : State → Prop}

theorem load_pt {E : Env P} {G : Nat → Prop} {gs : Gh} {tmps : Array Value} {w : World} (hi : Inv E G gs S tmps w) {r j q : Nat} {row : Row} {y z : A} {t : TypeId} {u : Value} (h1 : TRel w G S.rows gs (.pt r j q) u [])
    (hr : rowAt S.rows r = some row) (hy : row.xs[j]? = some y) (ha : aggT P t = some false) (hz : y.cells[q]? = some z) (hno : noOwn z = true) :
    ∃ ad v, u = .pointer (some ad) ∧ (loadVar t ad).run P w = .ok v w ∧ TRel w G S.rows gs z v [] := by
  obtain ⟨row', b, hr', hb, hv⟩ := pt_inv h1
  rw [hr] at hr'
  obtain rfl := Option.some.inj hr'
  have hq : q < y.cells.length := by
    rcases Nat.lt_or_ge q y.cells.length with h | h
    · exact h
    · rw [List.getElem?_eq_none h] at hz; simp at hz
  have hw : y.width = row.n := by
    obtain ⟨b', _, hrc⟩ := row_real hi hr (by
      intro h0
      rw [List.eq_nil_of_length_eq_zero h0] at hy
      simp at hy) (.inr ⟨_, hb⟩)
    obtain ⟨_, _, _, _, _, _, _, h5, _⟩ := hrc.ex
    exact h5 y (List.mem_of_getElem? hy)
  unfold A.width at hw
  have hseg : (y.cells.drop q).take 1 = [z] := by
    rw [List.drop_eq_getElem_cons hq]
    rw [List.getElem?_eq_getElem hq] at hz
    simp only [Option.some.injEq] at hz
    simp [hz]
  obtain ⟨b1, cur, e, cs, g0, g1, g2, g3, g4⟩ := row_seg (a := ⟨tmps, []⟩) hi hr hy (o := q) (s := 1) (by omega) (by rw [hseg]; simpa using hno) (.inr ⟨_, hb⟩)
  rw [hb] at g0
  obtain rfl := Option.some.inj g0
  rw [hseg] at g3
  obtain ⟨v, hv1, hv2⟩ := g3.get 0 z rfl
  have hcur : cur[j * row.n + q]? = some v := by
    rw [← g2] at hv1
    rw [List.getElem?_take_of_lt (by omega), List.getElem?_drop] at hv1
    simpa using hv1
  exact ⟨_, v, hv, run_loadVar_cell ha g1 hcur, hv2⟩
theorem load_ptAgg {E : Env P} {G : Nat → Prop} {gs : Gh} {tmps : Array Value} {w : World} (hi : Inv E G gs S tmps w) {r j q s : Nat} {row : Row} {y : A} {t : TypeId} {u : Value} (h1 : TRel w G S.rows gs (.pt r j q) u [])
    (hr : rowAt S.rows r = some row) (hy : row.xs[j]? = some y) (ha : aggT P t = some true) (hs : szT P t = some s) (hq : q + s ≤ row.n) (hno : ((y.cells.drop q).take s).all noOwn = true) :
    ∃ ad v, u = .pointer (some ad) ∧ (loadVar t ad).run P w = .ok v w ∧ TRel w G S.rows gs (.agg ((y.cells.drop q).take s)) v [] := by
  obtain ⟨row', b, hr', hb, hv⟩ := pt_inv h1
  rw [hr] at hr'
  obtain rfl := Option.some.inj hr'
  obtain ⟨b1, cur, e, cs, g0, g1, g2, g3, g4⟩ := row_seg (a := ⟨tmps, []⟩) hi hr hy hq hno (.inr ⟨_, hb⟩)
  rw [hb] at g0
  obtain rfl := Option.some.inj g0
  exact ⟨_, .agg cs.toArray, hv, run_loadVar_agg ha hs g1 g2 g4, .agg g3⟩

structure FitX (z x : A) : Prop where
  h : ∃ k, fitA k z x
theorem fitA_refl0 (x : A) : fitA 0 x x := by simp [fitA]
theorem FitX.same {x : A} : FitX x x := ⟨0, fitA_refl0 x⟩
theorem FitX.of {x y : A} (h : x = y) : FitX x y := h ▸ FitX.same
theorem fitL_refl {k : Nat} (ih : ∀ x, fitA k x x) : ∀ xs, fitA.fitL k xs xs
  | [] => by rw [fitA.fitL]; trivial
  | x :: xs => by rw [fitA.fitL]; exact ⟨ih x, fitL_refl ih xs⟩
theorem fitA_refl : ∀ (k : Nat) (x : A), fitA k x x
  | 0, x => fitA_refl0 x
  | k + 1, x => by
    have ih := fitL_refl (fitA_refl k)
    unfold fitA
    cases x <;> first | rfl | exact ih _ | exact ⟨rfl, rfl, ih _⟩
theorem fits {k : Nat} (xs : List A) : fitA.fitL k xs xs := fitL_refl (fitA_refl k) xs
/-- What the results' variables hold. -/
def vRes (T : Nat → Option TI) (S : State) : List ResultVar → (List A → Prop) → Prop
  | [], k => k []
  | .tmp t :: rs, k => vRes T S rs fun zs => k (ev S (.tmp t) :: zs)
  | .cell a t :: rs, k =>
    match T t, ev S (.tmp a) with
    | some i, .pt r j q => (match rowAt S.rows r with
      | some row => (match row.xs[j]? with
        | some y => vCell i row.n y q fun z => vRes T S rs fun zs => k (z :: zs)
        | none => False)
      | none => False)
    | _, _ => False
def vOut (Ω : Opq) (T : Nat → Option TI) (S : State) (rs : List ResultVar) (x : A) : Prop :=
  vRes T S rs fun zs => if (flat zs).all okCell then vStash Ω (flat zs).length S (flat zs) fun ys _ _ => FitX (oneA (regroup zs ys)) x else False
def outV (Ω : Opq) (T : Nat → Option TI) (rs : List ResultVar) (x : A) : Exit → State → Prop
  | .normal, S | .ret, S => vOut Ω T S rs x
  | _, _ => False
theorem vRes_ok (hT : TabOK P T) {E : Env P} {G : Nat → Prop} {gs : Gh} {tmps : Array Value} {w : World} (hi : Inv E G gs S tmps w) : ∀ {rs : List ResultVar} {k : List A → Prop}, vRes T S rs k →
    ∃ zs vs, k zs ∧ resOK P tmps w rs vs ∧ TRelL w G S.rows gs zs vs []
  | [], k, h => ⟨[], [], h, trivial, .nil⟩
  | .tmp t :: rs, k, h => by
    obtain ⟨zs, vs, h1, h2, h3⟩ := vRes_ok hT hi (rs := rs) h
    exact ⟨_, tmps.getD t undef :: vs, h1, ⟨rfl, h2⟩, .cons (F := []) (Fs := []) (ev_rel (a := ⟨tmps, []⟩) hi (.tmp t) rfl) h3⟩
  | .cell a t :: rs, k, h => by
    unfold vRes at h
    split at h <;> try exact h.elim
    rename_i i r j q hti ha
    have hti := tiOf_ok (hT _ _ hti)
    split at h <;> try exact h.elim
    rename_i row hr
    split at h <;> try exact h.elim
    rename_i y hy
    have h1 := ev_rel (a := ⟨tmps, []⟩) hi (.tmp a) rfl
    rw [ha] at h1
    unfold vCell at h
    split at h
    · rename_i hag
      split at h <;> try exact h.elim
      rename_i hq
      split at h <;> try exact h.elim
      rename_i hno
      obtain ⟨ad, v, g1, g2, g3⟩ := load_ptAgg hi h1 hr hy (by rw [hti.ag, hag]) hti.sz hq hno
      obtain ⟨zs, vs, h1, h2, h3⟩ := vRes_ok hT hi (rs := rs) h
      exact ⟨_, v :: vs, h1, ⟨⟨ad, g1, g2⟩, h2⟩, .cons (F := []) (Fs := []) g3 h3⟩
    · rename_i hag
      split at h <;> try exact h.elim
      rename_i z hz
      split at h <;> try exact h.elim
      rename_i hno
      obtain ⟨ad, v, g1, g2, g3⟩ := load_pt hi h1 hr hy (by rw [hti.ag]; simpa using hag) hz hno
      obtain ⟨zs, vs, h1, h2, h3⟩ := vRes_ok hT hi (rs := rs) h
      exact ⟨_, v :: vs, h1, ⟨⟨ad, g1, g2⟩, h2⟩, .cons (F := []) (Fs := []) g3 h3⟩
theorem flat_rel {G : Nat → Prop} {gs : Gh} {w : World} {rows : List (Option Row)} : ∀ {xs : List A} {vs : List Value}, TRelL w G rows gs xs vs [] → (flat xs).all okCell = true → TRelL w G rows gs (flat xs) (vs.flatMap fun v => v.cells.toList) []
  | xs, vs, h, hok => by
    generalize hF : ([] : List Nat) = F at h
    cases h with
    | nil => rw [← hF]; exact .nil
    | cons h hl =>
      rename_i x v F xs vs Fs
      have hF' : F = [] ∧ Fs = [] := by simpa using hF.symm
      obtain ⟨rfl, rfl⟩ := hF'
      rw [flat_cons, List.all_append, Bool.and_eq_true] at hok
      rw [flat_cons, List.flatMap_cons]
      exact (cells_rel h hok.1).append0 (flat_rel hl hok.2)
theorem RelL.split_at {G : Nat → Prop} {w : World} {xs : List A} {vs us : List Value} {F : List Nat} (h : RelL w G xs (vs ++ us) F) : ∃ F1 F2, F = F1 ++ F2 ∧ RelL w G (xs.take vs.length) vs F1 ∧ RelL w G (xs.drop vs.length) us F2 := by
  obtain ⟨F1, F2, e, h1, h2⟩ := h.take_ vs.length
  rw [List.take_left] at h1
  rw [List.drop_left] at h2
  exact ⟨F1, F2, e, h1, h2⟩
theorem regroup_rel {G G' : Nat → Prop} {gs : Gh} {w : World} {rows : List (Option Row)} : ∀ {xs : List A} {vs : List Value} {ys : List A} {F : List Nat}, TRelL w G rows gs xs vs [] → (flat xs).all okCell = true →
    RelL w G' ys (vs.flatMap fun v => v.cells.toList) F → RelL w G' (regroup xs ys) vs F
  | xs, vs, ys, F, h, hok, hy => by
    generalize hF : ([] : List Nat) = F0 at h
    cases h with
    | nil =>
      simp only [List.flatMap_nil] at hy
      have := hy.length
      cases hy
      exact .nil
    | cons h hl =>
      rename_i x v F1 xs vs Fs
      have hF' : F1 = [] ∧ Fs = [] := by simpa using hF.symm
      obtain ⟨rfl, rfl⟩ := hF'
      rw [flat_cons, List.all_append, Bool.and_eq_true] at hok
      rw [List.flatMap_cons] at hy
      obtain ⟨Fa, Fb, rfl, g1, g2⟩ := hy.split_at
      have hcl := (cells_rel h hok.1).length
      rw [hcl] at g1 g2
      have hrec := regroup_rel hl hok.2 g2
      have one : x.cells = [x] → RelL w G' (ys.headD .un :: regroup xs (ys.drop 1)) (v :: vs) (Fa ++ Fb) := fun hc => by
        rw [hc] at g1 hcl hrec
        have hok1 : okCell x = true := by
          have := hok.1
          rw [hc] at this
          simpa using this
        simp only [List.length_singleton] at g1 hcl hrec
        have hv : v.cells.toList = [v] := by
          have := okCell_v h hok1
          revert this
          generalize v = u
          intro this
          cases u <;> first | rfl | (simp [cellV, Value.oneCell'] at this)
        rw [hv] at g1
        cases ys with
        | nil => have := g1.length; simp at this
        | cons y ys =>
          simp only [List.take_succ_cons, List.take_zero] at g1
          have g1' : Rel w G' y v Fa := by
            generalize hu : [v] = us at g1
            cases g1 with
            | cons a b =>
              cases b
              cases hu
              simpa using a
          exact .cons g1' hrec
      cases x with
      | agg cs =>
        obtain ⟨us, rfl, _⟩ := agg_inv h
        simp only [regroup]
        refine .cons ?_ hrec
        exact Rel.agg (cs := us.toList) g1
      | _ => exact one rfl
theorem outV_ok (hT : TabOK P T) {rs : List ResultVar} {x : A} {e : Exit} (h : outV std T rs x e S) : outK P rs x e S := by
  have key : vOut std T S rs x → Outs P rs x S := fun h E G gs tmps w hi => by
    obtain ⟨zs, vs, h1, h2, h3⟩ := vRes_ok hT hi h
    split at h1 <;> try exact h1.elim
    rename_i hok
    obtain ⟨hc, ho⟩ := vStash_ok _ _ _ _ h1
    obtain ⟨k, hfit⟩ := ho.h
    obtain ⟨F, hst, hrel⟩ := stashL_ok _ _ S _ [] rfl hi Res.nil (flat_rel h3 hok) hc
    rw [List.append_nil] at hst
    exact ⟨vs, _, F, k, h2, regroup_rel h3 hok hrel, hst.res.nod, hst.res.own, hfit⟩
  cases e with
  | normal => exact key h
  | ret => exact key h
  | _ => exact h.elim
/-- A contract by the reckoning. -/
theorem PCtr.walk (hT : TabOK P T) {Ω : Opq} (hΩ : Ω = std) {g : Nat} {c : Code} {N : Nat} {rs : List ResultVar} {xs : List A} {x : A} (hf : FnAt P g c N rs) (hN : Nat.ble xs.length N = true) (h : vC Ω P T c (entryS N xs) (outV Ω T rs x)) : PCtr P g xs x :=
  PCtr.of hf (Nat.le_of_ble_eq_true hN) (VC.mono (vstart hT hΩ h) fun e S' h => outV_ok hT (hΩ ▸ h))

def subL (t : List (Nat × A)) : List (Nat × A) → Prop
  | [] => True
  | (k, x) :: l => lk t k = x ∧ subL t l
theorem subL_T {t : List (Nat × A)} : ∀ {t' : List (Nat × A)}, subL t t' → ∀ p ∈ t', lk t' p.1 = lk t p.1
  | (k, x) :: l, h, p, hp => by
    obtain ⟨h1, h2⟩ := h
    simp only [lk]
    split
    · rename_i e; rw [← e, h1]
    · rename_i hne
      rcases List.mem_cons.1 hp with rfl | hp
      · exact (hne rfl).elim
      · exact subL_T h2 p hp
theorem Sbs.mk {S S' : State} (hN : S.N = S'.N) (hr : S.rows = S'.rows) (ht : subL S.t S'.t) : Sbs S S' := by
  cases S with | mk t N rows => cases S' with | mk t' N' rows' =>
    dsimp only at hN hr ht
    subst hN; subst hr
    exact Sbs.of (subL_T ht)
theorem Sbs.trans {S S' S'' : State} (h : Sbs S S') (h' : Sbs S' S'') : Sbs S S'' := fun P E a w hs => h' P E a w (h P E a w hs)
/-- A row that is not asked for any more. -/
theorem Sbs.drop {r : Nat} {row : Row} (hr : rowAt S.rows r = some row) : Sbs S (S.turn r none) := by
  intro P E a w ⟨hd, G, gs, hi⟩
  refine ⟨hd, G, _, hi.turn (x := none) (ob := none) (F := []) hr rfl rfl rfl (Nat.le_refl _) (fun _ _ _ => rfl) (by simp) (by simp) (by simp) (by simp)⟩
theorem Sbs.trim {t : List (Nat × A)} {N : Nat} {rows : List (Option Row)} : Sbs ⟨t, N, rows ++ [none]⟩ ⟨t, N, rows⟩ := by
  intro P E a w ⟨hd, G, gs, hi⟩
  have hrow : ∀ r, rowAt (rows ++ [none]) r = rowAt rows r := fun r => by
    rw [rowAt_push]; split
    · rename_i h; rw [rowAt_none (by omega)]
    · rfl
  have hle : ∀ r, RowLe w w (rows ++ [none]) rows gs gs r := fun r => RowLe.refl_of fun row h => ⟨by rw [← hrow]; exact h, rfl, fun _ _ => rfl⟩
  refine ⟨hd, G, gs, ⟨hi.keep, hi.os, hi.tape, hi.output, hi.size, hi.sz, hi.gsub, hi.gnew, hi.glt, fun r row hr => (hi.row r row (by rw [← hrow] at hr; exact hr)).step (fun b hb => ⟨hb, rfl⟩) hle (fun _ _ => rfl),
    fun r row hr => hi.nod r row (by rw [← hrow] at hr; exact hr), fun r row hr => hi.own r row (by rw [← hrow] at hr; exact hr),
    fun r r' row row' hr hr' => hi.dis r r' row row' (by rw [← hrow] at hr; exact hr) (by rw [← hrow] at hr'; exact hr'), fun i => (hi.tmp i).step (fun b hb => ⟨hb, rfl⟩) hle (by simp)⟩⟩
end
end Go.Fw

/- Regions whose order is drawn: what only reads. Helpers for walks. Plain theorems, no condition. -/
set_option linter.unusedVariables false
set_option linter.unusedSimpArgs false
namespace Go.Fw

/-- Values that are told whole by what they are. -/
def detL : List A → Option (List Value)
  | [] => some []
  | .sc v :: xs => if cellV v then (detL xs).map fun vs => v :: vs else none
  | _ => none
def detA : A → Option Value
  | .sc v => if cellV v then some v else none
  | .agg xs => (detL xs).map fun vs => .agg vs.toArray
  | _ => none
theorem detL_rel {w : World} {G : Nat → Prop} : ∀ {xs : List A} {us vs : List Value} {F : List Nat}, detL xs = some us → RelL w G xs vs F → vs = us ∧ F = []
  | [], us, vs, F, h, hl => by cases hl; simp [detL] at h; exact ⟨h.symm ▸ rfl, rfl⟩
  | x :: xs, us, _, _, h, .cons hx hl => by
    cases x <;> try (simp [detL] at h; done)
    cases hx with
    | sc hc =>
      simp only [detL, hc, if_true, Option.map_eq_some_iff] at h
      obtain ⟨us', h1, rfl⟩ := h
      obtain ⟨rfl, rfl⟩ := detL_rel h1 hl
      exact ⟨rfl, rfl⟩
theorem detL_any {w : World} {G : Nat → Prop} : ∀ {xs : List A} {us : List Value}, detL xs = some us → RelL w G xs us []
  | [], us, h => by simp [detL] at h; subst h; exact .nil
  | x :: xs, us, h => by
    cases x <;> try (simp [detL] at h; done)
    rename_i v
    simp only [detL] at h
    split at h
    · rename_i hc
      simp only [Option.map_eq_some_iff] at h
      obtain ⟨us', h1, rfl⟩ := h
      exact .cons (F := []) (.sc hc) (detL_any h1)
    · simp at h
theorem detA_rel {w : World} {G : Nat → Prop} {x : A} {u v : Value} {F : List Nat} (h : detA x = some u) (hx : Rel w G x v F) : v = u := by
  cases x <;> try (simp [detA] at h; done)
  · cases hx with | sc hc => simp only [detA, hc, if_true, Option.some.injEq] at h; exact h
  · cases hx with
    | agg hl =>
      simp only [detA, Option.map_eq_some_iff] at h
      obtain ⟨us, h1, rfl⟩ := h
      rw [(detL_rel h1 hl).1]
theorem detA_any {w : World} {G : Nat → Prop} {x : A} {u : Value} (h : detA x = some u) : Rel w G x u [] := by
  cases x <;> try (simp [detA] at h; done)
  · simp only [detA] at h
    split at h
    · rename_i hc; simp only [Option.some.injEq] at h; subst h; exact .sc hc
    · simp at h
  · simp only [detA, Option.map_eq_some_iff] at h
    obtain ⟨us, h1, rfl⟩ := h
    exact .agg (detL_any h1)
structure QCallX (P : Program) (g : Nat) (args : List A) (S : State) (k : A → Prop) : Prop where
  h : Enter P g ∧ ∃ x u, detA x = some u ∧ k x ∧ ∀ (E : Env P) (G : Nat → Prop) (gs : Gh) (tmps : Array Value) (w : World) (vs : List Value), Inv E G gs S tmps w → TRelL w G S.rows gs args vs [] →
    Calls P g vs.toArray w (fun e w' => e = .returned u ∧ Go.RowKit.Below w.heap.size w w')
def vQCall (Ω : Opq) (P : Program) (T : Nat → Option TI) (S : State) (f : Callee) (args : List Operand) (ts : List TypeId) (k : A → Prop) : Prop :=
  match f with
  | .value (.func g) => if g < 1000000 then QCallX P g (args.map (ev S)) S k else False
  | .value f => (match ev S f with
    | .clo g caps => QCallX P (Ω.cloN g) (Ω.cloA g (args.map (ev S)) caps) S k
    | _ => False)
  | .builtin .len => (match args, ts with
    | [x], [t] => vLen Ω T t (ev S x) k
    | _, _ => False)
  | _ => False
def vQOp (Ω : Opq) (P : Program) (T : Nat → Option TI) (o : Oper) (S : State) (k : A → Prop) : Prop :=
  match o.op with
  | .move x => k (ev S x)
  | .assign x => k (ev S x)
  | .pick c x y => vPick Ω (ev S c) (ev S x) (ev S y) k
  | .unOp op _ x => vUn Ω op (ev S x) k
  | .binOp op t x y _ => vBinA Ω P T op t (ev S x) (ev S y) k
  | .load t x => vLoad T t S (ev S x) k
  | .fieldAddr t x i => vFieldAddr T t i (ev S x) k
  | .field t x i => vField T t i (ev S x) k
  | .indexAddr t x y => vIndexAddr Ω T t S (ev S x) (ev S y) k
  | .index t x y => vIndex Ω T t (ev S x) (ev S y) k
  | .extract x i => vExtract (ev S x) i k
  | .nilCheck x => vNilCheck (ev S x) k
  | .build t parts => vBuild T t (parts.toList.map fun p => (p.1, ev S p.2)) k
  | .slice t x lo hi none => vSlice Ω T t S (ev S x) (lo.map (ev S)) (hi.map (ev S)) k
  | .convert src dst x => vConv Ω T src dst S (ev S x) k
  | .makeFunc f first caps => vMakeFn f (first.toList.map (ev S)) (caps.toList.map (ev S)) k
  | .call c => vQCall Ω P T S c.callee c.args.toList c.argTypes.toList k
  | _ => False
def vQs (Ω : Opq) (P : Program) (T : Nat → Option TI) (ops : List Oper) : List Oper → State → (State → Prop) → Prop
  | [], S, K => K S
  | o :: os, S, K =>
    match o.guard with
    | none => vQOp Ω P T o S fun z => vQs Ω P T ops os (S.put o.dst z) K
    | some (j, b) =>
      match guardAt ops j with
      | none => False
      | some i => if i < S.N then (match lk S.t i with
        | .sc (.bool p) => brB p
            (fun _ => match b with
              | true => vQOp Ω P T o (S.put (some i) (.sc (.bool true))) fun z => vQs Ω P T ops os ((S.put (some i) (.sc (.bool true))).put o.dst z) K
              | false => vQs Ω P T ops os ((S.put (some i) (.sc (.bool true))).put o.dst (.tup [])) K)
            (fun _ => match b with
              | true => vQs Ω P T ops os ((S.put (some i) (.sc (.bool false))).put o.dst (.tup [])) K
              | false => vQOp Ω P T o (S.put (some i) (.sc (.bool false))) fun z => vQs Ω P T ops os ((S.put (some i) (.sc (.bool false))).put o.dst z) K)
        | .tup [] => vQs Ω P T ops os (S.put o.dst (.tup [])) K
        | _ => False) else False

section
variable {P : Program} {T : Nat → Option TI} {S : State} {o : Oper} {K : State → Prop}
/-- The operation is quiet: a value that does not depend on how memory has grown. -/
def QOK (P : Program) (o : Oper) (S : State) (x : A) : Prop :=
  ∀ (E : Env P) (G : Nat → Prop) (gs : Gh) (a : Act) (w : World), Inv E G gs S a.tmps w →
    ∃ v, (∀ w', Go.RowKit.Below w.heap.size w w' → o.quietAt P a (fun w'' => Go.RowKit.Below w.heap.size w w'') w' v) ∧ TRel w G S.rows gs x v []
theorem QOK.of {x : A} (h : VOK P o S x) : QOK P o S x := fun E G gs a w hi => by
  obtain ⟨v, h1, h2⟩ := h E G gs a w hi
  refine ⟨v, fun w' hw' => ?_, h2⟩
  unfold Oper.quietAt
  rw [h1 w' hw']
  exact ⟨rfl, rfl⟩
theorem of_VQ {k : A → Prop} (h : ∃ z, VOK P o S z ∧ k z) : ∃ z, QOK P o S z ∧ k z := let ⟨z, h1, h2⟩ := h; ⟨z, .of h1, h2⟩
theorem QCall_ok {k : A → Prop} {ci : Call} {f : Operand} {g : Nat} {caps : List A} (ho : o.op = .call ci) (hf : ci.callee = .value f) (he : ev S f = .clo g caps) (h : QCallX P (cloN g) (cloA g (ci.args.toList.map (ev S)) caps) S k) : ∃ z, QOK P o S z ∧ k z := by
  obtain ⟨hen, x, u, hu, hk, hrun⟩ := h.h
  refine ⟨x, fun E G gs a w hi => ⟨u, fun w' hw' => ?_, .of (detA_any hu)⟩, hk⟩
  have hi' : Inv E G gs S a.tmps w' := hi.below hw' (fun _ h => h) (fun _ h => .inl h) (fun b h => Nat.lt_of_lt_of_le (hi.glt b h) hw'.size)
  have hf' := ev_rel hi' f rfl
  rw [he] at hf'
  obtain ⟨cs, hv, hcs⟩ := hf'.clo_inv
  have hargs := cloA_rel (g := g) (evs_rel hi' ci.args.toList) hcs
  unfold Oper.quietAt
  rw [clo_call ho hf hv hen w']
  refine ⟨rfl, (hrun E G gs a.tmps w' _ hi' hargs).mono ?_⟩
  rintro e w'' ⟨he, hb⟩
  exact ⟨he, ⟨hb.os.trans hw'.os, hb.tape.trans hw'.tape, hb.output.trans hw'.output, Nat.le_trans hw'.size hb.size, fun b hbl => (hb.block b (Nat.lt_of_lt_of_le hbl hw'.size)).trans (hw'.block b hbl)⟩⟩
theorem vQCall_ok (hT : TabOK P T) {k : A → Prop} {ci : Call} (ho : o.op = .call ci) (h : vQCall std P T S ci.callee ci.args.toList ci.argTypes.toList k) : ∃ z, QOK P o S z ∧ k z := by
  unfold vQCall at h
  split at h <;> try exact h.elim
  · rename_i g hf
    split at h <;> try exact h.elim
    rename_i hg
    have he : ev S (.func g) = .clo g [] := if_pos hg
    refine QCall_ok ho hf he ?_
    unfold cloN cloA
    rw [if_pos hg, if_pos hg, List.append_nil]
    exact h
  · rename_i f hnf hf
    split at h <;> try exact h.elim
    rename_i g caps he
    exact QCall_ok ho hf he h
  · rename_i hf
    split at h <;> try exact h.elim
    rename_i x t h1 h2
    exact of_VQ (vLen_ok hT ho hf h1 h2 h)
theorem vQOp_ok (hT : TabOK P T) {k : A → Prop} (h : vQOp std P T o S k) : ∃ z, QOK P o S z ∧ k z := by
  unfold vQOp at h
  split at h
  · rename_i x ho; exact ⟨_, .of (VOK_move (.inl ho) rfl), h⟩
  · rename_i x ho; exact ⟨_, .of (VOK_move (.inr ho) rfl), h⟩
  · rename_i ho; exact of_VQ (vPick_ok ho h)
  · rename_i ho; exact of_VQ (vUn_ok ho h)
  · rename_i ho; exact of_VQ (vBinA_ok hT ho h)
  · rename_i ho; exact of_VQ (vLoad_ok hT ho h)
  · rename_i ho; exact of_VQ (vFieldAddr_ok hT ho h)
  · rename_i ho; exact of_VQ (vField_ok hT ho h)
  · rename_i ho; exact of_VQ (vIndexAddr_ok hT ho h)
  · rename_i ho; exact of_VQ (vIndex_ok hT ho h)
  · rename_i ho; exact of_VQ (vExtract_ok ho h)
  · rename_i ho; exact of_VQ (vNilCheck_ok ho h)
  · rename_i ho; exact of_VQ (vBuild_ok hT ho h)
  · rename_i ho; exact of_VQ (vSlice_ok hT ho h)
  · rename_i ho; exact of_VQ (vConv_ok hT ho h)
  · rename_i ho; exact of_VQ (vMakeFn_ok ho h)
  · rename_i ho; exact vQCall_ok hT ho h
  · exact h.elim
theorem vQs_ok (hT : TabOK P T) (ops : List Oper) {C : World → Prop} {Qa : Act → Prop} {E : Env P} {w : World} (hC : ∀ w', C w' ↔ Go.RowKit.Below w.heap.size w w')
    (hQ : ∀ a S, SInv E S a w → K S → Qa a) : ∀ (os : List Oper) (S : State), vQs std P T ops os S K → ∀ a, SInv E S a w → wpQuiet P ops.toArray C Qa os a
  | [], S, h, a, hs => hQ a S hs h
  | o :: os, S, h, a, hs => by
    have hC' : C = fun w' => Go.RowKit.Below w.heap.size w w' := funext fun w' => propext (hC w')
    have wanted : ∀ S', SInv E S' a w → vQOp std P T o S' (fun z => vQs std P T ops os (S'.put o.dst z) K) → Region.wanted o (yielded ops.toArray a.tmps) = true → wpQuiet P ops.toArray C Qa (o :: os) a := fun S' hs h hw => by
      refine wpQuiet_step fun K' hK' => ?_
      rw [if_pos hw]
      obtain ⟨z, h1, h2⟩ := vQOp_ok hT h
      obtain ⟨hd, G, gs, hi⟩ := hs
      obtain ⟨v, h3, h4⟩ := h1 E G gs a w hi
      refine ⟨v, fun w' hw' => ?_, hK' _ (vQs_ok hT ops hC hQ os _ h2 _ ⟨by rw [put_defers]; exact hd, G, gs, hi.put h4 o.dst⟩)⟩
      rw [hC']
      exact h3 w' ((hC w').1 hw')
    have skipped : ∀ S', SInv E S' a w → vQs std P T ops os (S'.put o.dst (.tup [])) K → Region.wanted o (yielded ops.toArray a.tmps) = false → wpQuiet P ops.toArray C Qa (o :: os) a := fun S' hs h hw => by
      refine wpQuiet_step fun K' hK' => ?_
      rw [hw]
      obtain ⟨hd, G, gs, hi⟩ := hs
      exact hK' _ (vQs_ok hT ops hC hQ os _ h _ ⟨by rw [put_defers]; exact hd, G, gs, hi.put (tup_undef _ _ _) o.dst⟩)
    unfold vQs at h
    split at h
    · rename_i hg
      exact wanted S hs h (by simp [Region.wanted, hg])
    · rename_i j b hg
      split at h <;> try exact h.elim
      rename_i i hat
      split at h <;> try exact h.elim
      rename_i hN
      split at h <;> try exact h.elim
      case h_2 hp =>
        obtain ⟨hd, G, gs, hi⟩ := hs
        have ht := hi.tmp i
        rw [hp, hi.vat_tmp hN] at ht
        obtain ⟨cs, hv, hcs⟩ := tup_inv ht
        have hcs0 : cs = #[] := by
          have := hcs.length
          exact Array.eq_empty_of_size_eq_zero (by simpa using this)
        subst hcs0
        have hsz : i < a.tmps.size := by rw [hi.sz]; exact hN
        have h1 : ((ops.toArray[j]?).bind (·.dst)) = some i := by simpa [guardAt] using hat
        have hy : yielded ops.toArray a.tmps j = none := by
          unfold yielded
          rw [h1]
          rw [Array.getD_eq_getD_getElem?, Array.getElem?_eq_getElem hsz] at hv
          simp only [Option.getD_some] at hv
          simp [Array.getElem?_eq_getElem hsz, hv]
        exact skipped _ ⟨hd, G, gs, hi⟩ h (by simp [Region.wanted, hg, hy])
      rename_i p hp
      have hy : ∀ q, p = q → yielded ops.toArray a.tmps j = some q ∧ SInv E (S.put (some i) (.sc (.bool q))) a w := fun q hq => by
        subst hq
        obtain ⟨hd, G, gs, hi⟩ := hs
        have ht := hi.tmp i
        have ht' := ht
        rw [hp, hi.vat_tmp hN] at ht
        have hv := (sc_inv ht).1
        refine ⟨?_, hd, G, gs, hi.retell (by rw [hp] at ht'; exact ht') hN⟩
        have hsz : i < a.tmps.size := by rw [hi.sz]; exact hN
        have h1 : ((ops.toArray[j]?).bind (·.dst)) = some i := by simpa [guardAt] using hat
        unfold yielded
        rw [h1]
        rw [Array.getD_eq_getD_getElem?, Array.getElem?_eq_getElem hsz] at hv
        simp only [Option.getD_some] at hv
        simp [Array.getElem?_eq_getElem hsz, hv]
      obtain ⟨ht, hf⟩ := brB_ok h
      cases p with
      | true =>
        obtain ⟨hy1, hy2⟩ := hy true rfl
        have := ht rfl
        cases b with
        | true => exact wanted _ hy2 this (by simp [Region.wanted, hg, hy1])
        | false => exact skipped _ hy2 this (by simp [Region.wanted, hg, hy1])
      | false =>
        obtain ⟨hy1, hy2⟩ := hy false rfl
        have := hf rfl
        cases b with
        | true => exact skipped _ hy2 this (by simp [Region.wanted, hg, hy1])
        | false => exact wanted _ hy2 this (by simp [Region.wanted, hg, hy1])
/-- A region that draws its order. -/
theorem VC_drawn (hT : TabOK P T) {Ω : Opq} (hΩ : Ω = std) (hm : P.follows .mixedOrders = true) {id : Nat} {ops : Array Oper} {K : Exit → State → Prop} (hB : Region.lexB .any ops = true)
    (h : vQs Ω P T ops.toList ops.toList S (K .normal)) : VC P (.region id ops true) S K := by
  subst hΩ
  intro E a w hs
  refine wp_region_quiet (C := fun w' => Go.RowKit.Below w.heap.size w w') hm hB ⟨rfl, rfl, rfl, Nat.le_refl _, fun _ _ => rfl⟩ ?_
  refine vQs_ok (K := K .normal) (E := E) (w := w) hT ops.toList (fun _ => Iff.rfl) (fun a' S' hs' hK w' hw' => ?_) ops.toList S h a hs
  obtain ⟨hd, G, gs, hi⟩ := hs'
  exact ⟨S', ⟨hd, G, gs, hi.below hw' (fun _ h => h) (fun _ h => .inl h) (fun b h => Nat.lt_of_lt_of_le (hi.glt b h) hw'.size)⟩, hK⟩
/-- A call that hands back plain numbers and texts. -/
theorem QCall_pure {g k : Nat} {args ys0 ys : List A} {x : A} {u : Value} {K : A → Prop} (hc : PCtr P g ys x) (h1 : mapO (roO S k) args = some ys0) (h2 : fitA.fitL k ys0 ys) (hu : detA x = some u) (hK : K x) : QCallX P g args S K := by
  refine ⟨hc.enter, x, u, hu, hK, fun E G gs tmps w vs hi hl => ?_⟩
  have hys := fitL_rel (fun x y v F => fitA_rel k x y v F) ys0 ys vs [] h2 (mapO_rel (fun x v F y h hy => roO_rel hi k x v F y h hy) hl h1)
  refine Calls.mono (hc.run w (Old w) vs hi.glt.old hys) ?_
  rintro e w' ⟨v, F, rfl, hb, hnd, hnew, hr⟩
  rw [detA_rel hu hr]
  exact ⟨rfl, hb⟩

/-- The last row is not asked for any more. -/
theorem Sbs.last {rows : List (Option Row)} {row : Row} (h : S.rows = rows ++ [some row]) : Sbs S ⟨killT rows.length S.t, S.N, killRows rows.length rows⟩ := by
  have hr : rowAt S.rows rows.length = some row := by rw [h, rowAt_push, if_pos rfl]
  refine Sbs.trans (Sbs.drop hr) ?_
  have e : S.turn rows.length none = ⟨killT rows.length S.t, S.N, killRows rows.length rows ++ [none]⟩ := by
    unfold State.turn
    rw [h]
    simp [killRows]
  rw [e]
  exact Sbs.trim
theorem Sbs.mkL {S' : State} {rows : List (Option Row)} {row : Row} (h : S.rows = rows ++ [some row]) (hN : S.N = S'.N) (hr : killRows rows.length rows = S'.rows) (ht : subL (killT rows.length S.t) S'.t) : Sbs S S' :=
  (Sbs.last h).trans (Sbs.mk hN hr ht)
theorem Sbs.lastN {rows : List (Option Row)} (h : S.rows = rows ++ [none]) : Sbs S ⟨S.t, S.N, rows⟩ := by
  have e : S = ⟨S.t, S.N, rows ++ [none]⟩ := by rw [← h]
  rw [e]; exact Sbs.trim
/-! Reckoning in 64 bits. -/
theorem wrap64 {x : Int} (h1 : -9223372036854775808 ≤ x) (h2 : x ≤ 9223372036854775807) : IntKind.i64.wrap x = x := by
  show (if (true && decide (x % 18446744073709551616 ≥ 9223372036854775808)) = true then x % 18446744073709551616 - 18446744073709551616 else x % 18446744073709551616) = x
  simp only [Bool.true_and, decide_eq_true_eq]
  split <;> omega
/-- A loop, by the reckoning: states by an index, what is known of the index, a measure. -/
theorem loopX (hT : TabOK P T) {Ω : Opq} (hΩ : Ω = std) {ι : Type} {c : Code} {K : Exit → State → Prop} (I : ι → State) (p : ι → Prop) (μ : ι → Nat) (i : ι) (hp : p i) (hs : Sbs S (I i))
    (h : ∀ i, p i → vC Ω P T c (I i) (thenK (fun S' => ∃ j, p j ∧ μ j < μ i ∧ Sbs S' (I j)) K)) : VCX P (.loop c) S K := by
  refine ⟨VC.sub (VC_loop (ι := {i // p i}) (fun i => I i.1) (fun i => μ i.1) (fun i => ?_) ⟨i, hp⟩) hs⟩
  refine VC.mono (vstart hT hΩ (h i.1 i.2)) fun e S' h => ?_
  cases e <;> first | exact h | skip
  obtain ⟨j, h1, h2, h3⟩ := h
  exact ⟨⟨j, h1⟩, h2, h3⟩
@[simp] theorem arS_add (k : IntKind) (x y : Int) : arS .add k x y = k.wrap (x + y) := rfl
@[simp] theorem arS_sub (k : IntKind) (x y : Int) : arS .sub k x y = k.wrap (x - y) := rfl
@[simp] theorem arS_mul (k : IntKind) (x y : Int) : arS .mul k x y = k.wrap (x * y) := rfl
@[simp] theorem arS_quo (k : IntKind) (x y : Int) : arS .quo k x y = k.wrap (x.tdiv y) := rfl
@[simp] theorem arS_rem (k : IntKind) (x y : Int) : arS .rem k x y = x.tmod y := rfl
@[simp] theorem cmpIS_eql (x y : Int) : cmpIS .eql x y = (x == y) := rfl
@[simp] theorem cmpIS_neq (x y : Int) : cmpIS .neq x y = (x != y) := rfl
@[simp] theorem cmpIS_lss (x y : Int) : cmpIS .lss x y = decide (x < y) := rfl
@[simp] theorem cmpIS_leq (x y : Int) : cmpIS .leq x y = decide (x ≤ y) := rfl
@[simp] theorem cmpIS_gtr (x y : Int) : cmpIS .gtr x y = decide (x > y) := rfl
@[simp] theorem cmpIS_geq (x y : Int) : cmpIS .geq x y = decide (x ≥ y) := rfl
@[simp] theorem cmpSS_eql (x y : List UInt8) : cmpSS .eql x y = (x == y) := rfl
@[simp] theorem cmpSS_neq (x y : List UInt8) : cmpSS .neq x y = (x != y) := rfl
@[simp] theorem cmpSS_lss (x y : List UInt8) : cmpSS .lss x y = Op.bytesLess x y := rfl
@[simp] theorem cmpSS_gtr (x y : List UInt8) : cmpSS .gtr x y = !(Op.bytesLess x y || x == y) := rfl
@[simp] theorem cmpSS_leq (x y : List UInt8) : cmpSS .leq x y = (Op.bytesLess x y || x == y) := rfl
@[simp] theorem cmpSS_geq (x y : List UInt8) : cmpSS .geq x y = !(Op.bytesLess x y) := rfl
theorem lt_t {x y : Int} (h : std.cmp .lss x y = true) : x < y := by
  have h : cmpIS .lss x y = true := h
  simp at h; omega
theorem lt_f {x y : Int} (h : std.cmp .lss x y = false) : y ≤ x := by
  have h : cmpIS .lss x y = false := h
  simp at h; omega
theorem le_t {x y : Int} (h : std.cmp .leq x y = true) : x ≤ y := by
  have h : cmpIS .leq x y = true := h
  simp at h; omega
theorem le_f {x y : Int} (h : std.cmp .leq x y = false) : y < x := by
  have h : cmpIS .leq x y = false := h
  simp at h; omega
theorem gt_t {x y : Int} (h : std.cmp .gtr x y = true) : y < x := by
  have h : cmpIS .gtr x y = true := h
  simp at h; omega
theorem gt_f {x y : Int} (h : std.cmp .gtr x y = false) : x ≤ y := by
  have h : cmpIS .gtr x y = false := h
  simp at h; omega
theorem ge_t {x y : Int} (h : std.cmp .geq x y = true) : y ≤ x := by
  have h : cmpIS .geq x y = true := h
  simp at h; omega
theorem ge_f {x y : Int} (h : std.cmp .geq x y = false) : x < y := by
  have h : cmpIS .geq x y = false := h
  simp at h; omega
theorem eq_t {x y : Int} (h : std.cmp .eql x y = true) : x = y := by
  have h : cmpIS .eql x y = true := h
  simp at h; omega
theorem eq_f {x y : Int} (h : std.cmp .eql x y = false) : x ≠ y := by
  have h : cmpIS .eql x y = false := h
  simp at h; omega
theorem ne_t {x y : Int} (h : std.cmp .neq x y = true) : x ≠ y := by
  have h : cmpIS .neq x y = true := h
  simp at h; omega
theorem ne_f {x y : Int} (h : std.cmp .neq x y = false) : x = y := by
  have h : cmpIS .neq x y = false := h
  simp at h; omega
end
end Go.Fw

/- Regions that draw their order, of which a first part only reads and the rest stands in one order. Plain theorems, no condition. -/
set_option linter.unusedVariables false
set_option linter.unusedSimpArgs false
namespace Go.Fw
section
variable {P : Program} {ops : Array Oper} {md : Region.Mode} {C : World → Prop}
def anyLQ (P : Program) (md : Region.Mode) (ops : Array Oper) (C : World → Prop) (n : Nat) (L : Array Bool → Act → Prop) : Nat → Array Bool → Act → Prop
  | 0, listed, a => L listed a
  | f + 1, listed, a => Region.ready md ops listed ≠ [] ∧ ∀ i ∈ Region.ready md ops listed, i < n ∧ qOp P ops C i (anyLQ P md ops C n L f (listed.setIfInBounds i true)) a
theorem any_of_headQ {n g : Nat} {L : Array Bool → Act → Prop} {Q' : Exit → Act → World → Prop} (hL : ∀ listed a w, C w → L listed a → wpAny P md ops Q' g listed a w) :
    ∀ (f : Nat) (listed : Array Bool) (a : Act) (w : World), C w → anyLQ P md ops C n L f listed a → wpAny P md ops Q' (f + g) listed a w
  | 0, listed, a, w, hw, h => by rw [Nat.zero_add]; exact hL _ _ _ hw h
  | f + 1, listed, a, w, hw, h => by
    rw [show f + 1 + g = (f + g) + 1 by omega]
    exact ⟨fun h0 => absurd h0 h.1, fun i hi => wpOp_of_qOp hw (fun a' w' hw' h' => any_of_headQ hL f _ a' w' hw' h') (h.2 i hi).2⟩
theorem anyLQ_first {n i : Nat} {oi : Oper} {v : Value} {L : Array Bool → Act → Prop} (hi : ops[i]? = some oi) (hsel : ∀ (j : Nat) (o : Oper) cs b, ops[j]? = some o → o.op ≠ .select cs b)
    (hs : Region.sinkB md ops n = true) (hc : Region.chainB md ops n = true) (hn : n < ops.size) (hin : i < n) (hdone : ∀ listed a, L listed a → ∀ j ∈ Region.ready md ops listed, n ≤ j) :
    ∀ (f : Nat) (listed : Array Bool) (a : Act), HeadInv md ops n listed →
      (∀ j oj, ops[j]? = some oj → j ≠ i → listed.getD j true = false → (∀ e ∈ oj.after, Region.binds md e = true → e.on ≠ i) → oi.apart ops oj = true) →
      i ∈ Region.ready md ops listed → YieldsIn P ops C oi v a →
      anyLQ P md ops C n L f (listed.setIfInBounds i true) (a.put oi.dst v) → anyLQ P md ops C n L (f + 1) listed a := by
  intro f
  induction f with
  | zero =>
    intro listed a inv _ hr hy H
    have hun := (mem_ready.1 hr).1
    refine ⟨fun h => (by rw [h] at hr; cases hr), fun j hj => ?_⟩
    have hjn : j < n := (Nat.lt_or_ge j n).elim id fun h => absurd hj (tail_waits hs hc hn inv _ i rfl hin hun j h)
    refine ⟨hjn, ?_⟩
    by_cases hji : j = i
    · subst hji; exact hy.qOp hi H
    · have := hdone _ _ H j (ready_mono hj hji)
      omega
  | succ f ih =>
    intro listed a inv hfree hr hy H
    have hun := (mem_ready.1 hr).1
    refine ⟨fun h => (by rw [h] at hr; cases hr), fun j hj => ?_⟩
    have hjn : j < n := (Nat.lt_or_ge j n).elim id fun h => absurd hj (tail_waits hs hc hn inv _ i rfl hin hun j h)
    refine ⟨hjn, ?_⟩
    by_cases hji : j = i
    · subst hji; exact hy.qOp hi H
    · have h1 := (H.2 j (ready_mono hj hji)).2
      obtain ⟨hjun, oj, hoj, hall⟩ := mem_ready.1 hj
      have hnot : ∀ e ∈ oj.after, Region.binds md e = true → e.on ≠ i := fun e he hb heq => by
        have h1 := hall e he hb
        rw [heq, getD_both hun] at h1
        cases h1
      have h2 := qOp_put hoj (hfree j oj hoj hji hjun hnot) (fun cs b => hsel i oi cs b hi) (fun cs b => hsel j oj cs b hoj) hy h1
      have hfree' : ∀ k ok, ops[k]? = some ok → k ≠ i → (listed.setIfInBounds j true).getD k true = false →
          (∀ e ∈ ok.after, Region.binds md e = true → e.on ≠ i) → oi.apart ops ok = true := fun k ok hk hki hun hno => by
        refine hfree k ok hk hki ?_ hno
        by_cases hjk : j = k
        · subst hjk; exact hjun
        · rw [getD_set_ne true hjk] at hun; exact hun
      refine qOp_mono (fun a' h3 => ih (listed.setIfInBounds j true) a' (inv.set hj hjn) hfree' (ready_mono hr (Ne.symm hji)) h3.1 ?_) h2
      rw [Array.setIfInBounds_comm _ _ hji]
      exact h3.2
theorem anyLQ_lex {n g : Nat} {Lq : Act → Prop} (hsel : Region.noSelect ops = true) (hs : Region.sinkB md ops n = true) (hc : Region.chainB md ops n = true) (hn : n < ops.size) :
    ∀ (l : List Oper) (k : Nat) (listed : Array Bool) (a : Act), (∀ j, j < l.length → l[j]? = ops[k + j]?) → k + l.length = n → HeadInv md ops n listed →
    Region.lexHead md ops g l.length k listed = true → wpQuiet P ops C Lq l a →
    anyLQ P md ops C n (fun listed' a' => Region.seqB md ops g n listed' = true ∧ Lq a') l.length listed a
  | [], k, listed, a, _, hk, _, hB, h => by
    have : k = n := by simpa using hk
    subst this
    exact ⟨by simpa [Region.lexHead] using hB, h⟩
  | o :: l, k, listed, a, hl, hk, inv, hB, h => by
    have h0 : ops[k]? = some o := by simpa using (hl 0 (by simp)).symm
    simp only [List.length_cons, Region.lexHead, Bool.and_eq_true] at hB
    obtain ⟨⟨hr, hf⟩, hB'⟩ := hB
    have hkn : k < n := by simp only [List.length_cons] at hk; omega
    have hr' : k ∈ Region.ready md ops listed := by simpa using hr
    have hst : qOp P ops C k (wpQuiet P ops C Lq l) a := by unfold qOp; simp only [h0]; exact h
    obtain ⟨v, hy, hK⟩ := yieldsIn_of_qOp h0 hst
    exact anyLQ_first h0 (Region.noSelect_spec hsel) hs hc hn hkn (fun listed' a' hL => seqB_ready hL.1) l.length listed a inv (Region.free_spec h0 hf) hr' hy
      (anyLQ_lex hsel hs hc hn l (k + 1) _ _ (fun j hj => by have := hl (j + 1) (by simp; omega); simpa [Nat.add_assoc, Nat.add_comm 1 j] using this) (by simp only [List.length_cons] at hk; omega) (inv.set hr' hkn) hB' hK)
theorem wp_region_quiet_tail {id : Nat} {Q : Exit → Act → World → Prop} {a : Act} {w : World} {l : List Oper} (n : Nat) (hm : P.follows .mixedOrders = true) (hB : Region.lexTailB .any l.toArray n = true) (hC : C { w with drawn := w.drawn + 1 })
    (h : wpQuiet P l.toArray C (fun a' => ∀ w', C w' → wpList P l.toArray Q (l.drop n) a' w') (l.take n) a) : (Code.region id l.toArray true).wp P Q a w := by
  simp only [Region.lexTailB, Bool.and_eq_true, decide_eq_true_eq] at hB
  obtain ⟨⟨⟨⟨hsel, hn⟩, hs⟩, hc⟩, hlex⟩ := hB
  have hn' : n < l.length := by simpa using hn
  have htl : (l.take n).length = n := by simp; omega
  have hdl : (l.drop n).length = l.toArray.size - n := by simp
  have inv0 : HeadInv .any l.toArray n (Array.replicate l.toArray.size false) :=
    ⟨by simp, fun j oj _ hl => (by rw [getD_replicate_false] at hl; cases hl), fun t _ ht => getD_in (by simpa using ht) (getD_replicate_false _ _)⟩
  have H := anyLQ_lex (md := .any) (g := l.toArray.size - n) hsel hs hc hn (l.take n) 0 _ a (fun j hj => by
    have hj' : j < n := by rw [htl] at hj; exact hj
    simp [hj']) (by simpa using htl) inv0 (by rw [htl]; exact hlex) h
  refine wp_region_any hm ?_
  have := any_of_headQ (Q' := Q) (g := l.toArray.size - n) (fun listed a' w' hw' hL => by
    have := wpAny_of_seq (md := .any) (Q' := Q) (l.drop n) n listed a' w' (fun j => by simp [List.getElem?_drop]) (by rw [hdl]; exact hL.1) (hL.2 w' hw')
    rwa [hdl] at this) _ _ _ _ hC H
  rw [htl, show n + (l.toArray.size - n) = l.toArray.size by omega] at this
  exact this
variable {T : Nat → Option TI} {S : State}
/-- A region that draws its order: n operations that only read, then the rest in one order. -/
theorem VC_tail (hT : TabOK P T) {Ω : Opq} (hΩ : Ω = std) (hm : P.follows .mixedOrders = true) (n : Nat) {id : Nat} {ops : Array Oper} {K : Exit → State → Prop} (hB : Region.lexTailB .any ops n = true)
    (h : vQs Ω P T ops.toList (ops.toList.take n) S fun S' => vOps Ω P T ops.toList none (ops.toList.drop n) S' (K .normal)) : VC P (.region id ops true) S K := by
  subst hΩ
  intro E a w hs
  have hops : ops = ops.toList.toArray := by simp
  rw [hops] at hB ⊢
  refine wp_region_quiet_tail (C := fun w' => Go.RowKit.Below w.heap.size w w') n hm hB ⟨rfl, rfl, rfl, Nat.le_refl _, fun _ _ => rfl⟩ ?_
  refine vQs_ok (E := E) (w := w) hT ops.toList (fun _ => Iff.rfl) (fun a' S' hs' hK w' hw' => ?_) (ops.toList.take n) S h a hs
  obtain ⟨hd, G, gs, hi⟩ := hs'
  exact vOps_ok hT ops.toList (ops.toList.drop n) none S' K hK E a' w' ⟨hd, G, gs, hi.below hw' (fun _ h => h) (fun _ h => .inl h) (fun b h => Nat.lt_of_lt_of_le (hi.glt b h) hw'.size)⟩
end
end Go.Fw

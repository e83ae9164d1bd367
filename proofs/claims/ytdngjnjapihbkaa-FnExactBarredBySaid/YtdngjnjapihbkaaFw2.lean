/- Abstract states: temporaries, own rows, and what they say of a frame and a world. Plain theorems, no condition. -/
import Derived.Test.YtdngjnjapihbkaaFw1
set_option linter.unusedVariables false
set_option linter.unusedSimpArgs false
namespace Go.Fw

/-- A row of the call's own: elements of n cells each. 'lk': its cells may lead to other own rows. -/
structure Row where
  n : Nat
  xs : List A
  lk : Bool
structure State where
  t : List (Nat × A)
  N : Nat
  rows : List (Option Row)

def lk : List (Nat × A) → Nat → A
  | [], _ => .un
  | (k, x) :: l, i => if k = i then x else lk l i
def rowAt (rows : List (Option Row)) (r : Nat) : Option Row := (rows[r]?).getD none

/-- Of each row: its block (none: the nil slice), and the blocks that its cells alone hold. -/
abbrev Gh := Nat → Option Nat × List Nat
def Gh.all (gs : Gh) (r : Nat) : List Nat := (gs r).1.toList ++ (gs r).2

mutual
/-- What a temporary, or a cell of a row that leads on, says. -/
inductive TRel (w : World) (G : Nat → Prop) (rows : List (Option Row)) (gs : Gh) : A → Value → List Nat → Prop
  | un {v : Value} : TRel w G rows gs .un v []
  | of {x : A} {v : Value} {F : List Nat} (h : Rel w G x v F) : TRel w G rows gs x v F
  | vw {r off len k cap b : Nat} {row : Row} {cur : Array Value} {e : TypeId}
      (hr : rowAt rows r = some row) (hb : (gs r).1 = some b) (hl : off + len ≤ row.xs.length) (hh : w.heap[b]? = some (.cells cur e (0, 0)))
      (hs : cur.size = cap * row.n) (hm : cap ≤ maxLen) (hc : row.xs.length ≤ cap) (hk : k = off * row.n ∨ (cap = off ∧ 0 < off)) :
      TRel w G rows gs (.vw r off len) (.slice (some ⟨b, k, none⟩) len (cap - off)) []
  | vwn {r : Nat} {row : Row} (hr : rowAt rows r = some row) (hb : (gs r).1 = none) (hx : row.xs = []) : TRel w G rows gs (.vw r 0 0) (.slice none 0 0) []
  | pt {r j o k b : Nat} {row : Row} (hr : rowAt rows r = some row) (hb : (gs r).1 = some b) (hk : k = j * row.n + o) : TRel w G rows gs (.pt r j o) (.pointer (some ⟨b, k, none⟩)) []
  | agg {xs : List A} {cs : List Value} {F : List Nat} (hl : TRelL w G rows gs xs cs F) : TRel w G rows gs (.agg xs) (.agg cs.toArray) F
  | tup {xs : List A} {cs : List Value} {F : List Nat} (hl : TRelL w G rows gs xs cs F) : TRel w G rows gs (.tup xs) (.tuple cs.toArray) F
  | clo {g : Nat} {caps : List A} {cs : List Value} {F : List Nat} (hl : TRelL w G rows gs caps cs F) : TRel w G rows gs (.clo g caps) (mkFn g cs) F
inductive TRelL (w : World) (G : Nat → Prop) (rows : List (Option Row)) (gs : Gh) : List A → List Value → List Nat → Prop
  | nil : TRelL w G rows gs [] [] []
  | cons {x : A} {v : Value} {F : List Nat} {xs : List A} {vs : List Value} {Fs : List Nat} (h : TRel w G rows gs x v F) (hl : TRelL w G rows gs xs vs Fs) :
      TRelL w G rows gs (x :: xs) (v :: vs) (F ++ Fs)
end

theorem TRelL.length {w : World} {G : Nat → Prop} {rows : List (Option Row)} {gs : Gh} : ∀ {xs : List A} {vs : List Value} {F : List Nat}, TRelL w G rows gs xs vs F → vs.length = xs.length
  | _, _, _, .nil => rfl
  | _, _, _, .cons _ hl => by simp [hl.length]
theorem TRelL.of {w : World} {G : Nat → Prop} {rows : List (Option Row)} {gs : Gh} : ∀ {xs : List A} {vs : List Value} {F : List Nat}, RelL w G xs vs F → TRelL w G rows gs xs vs F
  | _, _, _, .nil => .nil
  | _, _, _, .cons h hl => .cons (.of h) (.of hl)

/-- The cells of a row. -/
def CellsRel (lk : Bool) (w : World) (G : Nat → Prop) (rows : List (Option Row)) (gs : Gh) (xs : List A) (cs : List Value) (F : List Nat) : Prop :=
  if lk then TRelL w G rows gs xs cs F else RelL w G xs cs F

structure RowCells (w : World) (G : Nat → Prop) (rows : List (Option Row)) (gs : Gh) (row : Row) (b : Nat) (F : List Nat) : Prop where
  ex : ∃ (cur : Array Value) (e : TypeId) (cap : Nat), w.heap[b]? = some (.cells cur e (0, 0)) ∧ cur.size = cap * row.n ∧ row.xs.length ≤ cap ∧ cap ≤ maxLen ∧
    (∀ x ∈ row.xs, x.width = row.n) ∧ (∀ v ∈ cur.toList.take (row.xs.length * row.n), cellV v = true) ∧ CellsRel row.lk w G rows gs (flat row.xs) (cur.toList.take (row.xs.length * row.n)) F
def RowRel (w : World) (G : Nat → Prop) (rows : List (Option Row)) (gs : Gh) (row : Row) (ob : Option Nat) (F : List Nat) : Prop :=
  match ob with
  | some b => RowCells w G rows gs row b F
  | none => row.xs = [] ∧ F = []

/-- The surroundings of a call: the world that it came from, the blocks that may be read then, the blocks that it may turn. -/
structure Env where
  w0 : World
  G0 : Nat → Prop
  Fin : Nat → Prop
  gv : Nat → Value
/-- The temporaries; behind them, values that are kept in mind. -/
def vat (E : Env) (tmps : Array Value) (i : Nat) : Value := if i < tmps.size then tmps.getD i undef else E.gv i

structure Inv (E : Env) (G : Nat → Prop) (gs : Gh) (S : State) (tmps : Array Value) (w : World) : Prop where
  keep : ∀ b, b < E.w0.heap.size → ¬ E.Fin b → w.heap[b]? = E.w0.heap[b]?
  os : w.os = E.w0.os
  tape : w.tape = E.w0.tape
  output : w.output = E.w0.output
  size : E.w0.heap.size ≤ w.heap.size
  sz : tmps.size = S.N
  gsub : ∀ b, E.G0 b → G b
  gnew : ∀ b, G b → E.G0 b ∨ E.w0.heap.size ≤ b
  glt : ∀ b, G b → b < w.heap.size
  row : ∀ r row, rowAt S.rows r = some row → RowRel w G S.rows gs row (gs r).1 (gs r).2
  nod : ∀ r row, rowAt S.rows r = some row → (gs.all r).Nodup
  own : ∀ r row, rowAt S.rows r = some row → ∀ b ∈ gs.all r, ¬ G b ∧ (E.Fin b ∨ E.w0.heap.size ≤ b)
  dis : ∀ r r' row row', rowAt S.rows r = some row → rowAt S.rows r' = some row' → r ≠ r' → ∀ b ∈ gs.all r, b ∉ gs.all r'
  tmp : ∀ i, TRel w G S.rows gs (lk S.t i) (vat E tmps i) []

def SInv (E : Env) (S : State) (a : Act) (w : World) : Prop := a.defers = [] ∧ ∃ G gs, Inv E G gs S a.tmps w

def VC (P : Program) (c : Code) (S : State) (K : Exit → State → Prop) : Prop :=
  ∀ E a w, SInv E S a w → c.wp P (fun e a' w' => ∃ S', SInv E S' a' w' ∧ K e S') a w

section
variable {P : Program} {S : State} {K : Exit → State → Prop}
theorem VC.mono {c : Code} {K' : Exit → State → Prop} (h : VC P c S K) (hk : ∀ e S', K e S' → K' e S') : VC P c S K' :=
  fun E a w hs => wp_mono (h E a w hs) fun e a' w' ⟨S', h1, h2⟩ => ⟨S', h1, hk _ _ h2⟩
theorem VC_skip (h : K .normal S) : VC P .skip S K := fun E a w hs => wp_skip ⟨S, hs, h⟩
theorem VC_exit {id : Nat} (h : K (.exit id) S) : VC P (.exit id) S K := fun E a w hs => wp_exit ⟨S, hs, h⟩
theorem VC_ret (h : K .ret S) : VC P .ret S K := fun E a w hs => wp_ret ⟨S, hs, h⟩
def thenK (next : State → Prop) (K : Exit → State → Prop) : Exit → State → Prop
  | .normal, S => next S
  | e, S => K e S
theorem VC_seq {x y : Code} (h : VC P x S (thenK (fun S' => VC P y S' K) K)) : VC P (.seq x y) S K := by
  intro E a w hs
  refine wp_seq (wp_mono (h E a w hs) ?_)
  intro e a' w' hh
  obtain ⟨S', h1, h2⟩ := hh
  cases e <;> first | exact h2 E a' w' h1 | exact ⟨S', h1, h2⟩
def blockK (id : Nat) (K : Exit → State → Prop) : Exit → State → Prop
  | .exit id', S => if id' = id then K .normal S else K (.exit id') S
  | e, S => K e S
theorem VC_block {id : Nat} {c : Code} (h : VC P c S (blockK id K)) : VC P (.block id c) S K := by
  intro E a w hs
  refine wp_block (wp_mono (h E a w hs) ?_)
  intro e a' w' hh
  obtain ⟨S', h1, h2⟩ := hh
  cases e <;> first | exact ⟨S', h1, h2⟩ | skip
  rename_i id'
  simp only [blockK] at h2
  simp only [Exit.inBlock]
  split <;> rename_i hid
  · rw [if_pos hid] at h2; exact ⟨S', h1, h2⟩
  · rw [if_neg hid] at h2; exact ⟨S', h1, h2⟩
/-- The same but for less known. -/
def Sbs (S S' : State) : Prop := ∀ E a w, SInv E S a w → SInv E S' a w
theorem Sbs.refl (S : State) : Sbs S S := fun _ _ _ h => h
theorem VC.sub {c : Code} {S' : State} (h : VC P c S' K) (hs : Sbs S S') : VC P c S K := fun E a w h0 => h E a w (hs E a w h0)
def subT (t t' : List (Nat × A)) : Prop := ∀ p ∈ t', lk t' p.1 = lk t p.1
theorem lk_of_not_mem : ∀ {t : List (Nat × A)} {i : Nat}, (∀ p ∈ t, p.1 ≠ i) → lk t i = .un
  | [], _, _ => rfl
  | (k, x) :: l, i, h => by
    have h1 : k ≠ i := h (k, x) (by simp)
    simp only [lk, if_neg h1]
    exact lk_of_not_mem fun p hp => h p (by simp [hp])
theorem Sbs.of {t t' : List (Nat × A)} {N : Nat} {rows : List (Option Row)} (h : subT t t') : Sbs ⟨t, N, rows⟩ ⟨t', N, rows⟩ := by
  intro E a w hs
  obtain ⟨hd, G, gs, hi⟩ := hs
  refine ⟨hd, G, gs, ⟨hi.keep, hi.os, hi.tape, hi.output, hi.size, hi.sz, hi.gsub, hi.gnew, hi.glt, hi.row, hi.nod, hi.own, hi.dis, fun i => ?_⟩⟩
  show TRel w G rows gs (lk t' i) (vat E a.tmps i) []
  by_cases hm : ∃ p ∈ t', p.1 = i
  · obtain ⟨p, hp, rfl⟩ := hm
    rw [h p hp]
    exact hi.tmp p.1
  · rw [lk_of_not_mem fun p hp e => hm ⟨p, hp, e⟩]
    exact .un
/-- A loop: states by an index, a measure that each round lowers. -/
theorem VC_loop {ι : Type} {c : Code} (I : ι → State) (μ : ι → Nat)
    (h : ∀ i, VC P c (I i) (thenK (fun S' => ∃ j, μ j < μ i ∧ Sbs S' (I j)) K)) (i : ι) : VC P (.loop c) (I i) K := by
  intro E a w hs b k cs
  have key : ∀ n i a w, μ i = n → SInv E (I i) a w →
      ∃ e a' w', (∃ S', SInv E S' a' w' ∧ K e S') ∧ Arrives P (lone (b.at a (.code c :: .inLoop c :: k)) cs w) b k cs e a' w' := by
    intro n
    induction n using Nat.strongRecOn with
    | _ n ih =>
      intro i a w hn hI
      obtain ⟨e, a₁, w₁, ⟨S1, hS1, hq⟩, harr⟩ := h i E a w hI b (.inLoop c :: k) cs
      cases e with
      | normal =>
        obtain ⟨j, hlt, hsub⟩ := hq
        obtain ⟨e₂, a₂, w₂, hq₂, harr₂⟩ := ih (μ j) (hn ▸ hlt) j a₁ w₁ rfl (hsub E a₁ w₁ hS1)
        exact ⟨e₂, a₂, w₂, hq₂, .of_steps (Steps.trans harr (.one step_inLoop)) harr₂⟩
      | exit id => exact ⟨_, a₁, w₁, ⟨S1, hS1, hq⟩, .pass (x := .inLoop c) rfl (fun _ _ => .inl (by simp)) harr⟩
      | goto l => exact ⟨_, a₁, w₁, ⟨S1, hS1, hq⟩, .pass (x := .inLoop c) rfl (fun _ _ => .inl (by simp)) harr⟩
      | ret => exact ⟨_, a₁, w₁, ⟨S1, hS1, hq⟩, .pass (x := .inLoop c) rfl (fun _ _ => .inl (by simp)) harr⟩
      | panic ch => exact ⟨_, a₁, w₁, ⟨S1, hS1, hq⟩, .pass (x := .inLoop c) rfl (fun _ _ => .inl (by simp)) harr⟩
      | outgrown => exact ⟨_, a₁, w₁, ⟨S1, hS1, hq⟩, .pass (x := .inLoop c) rfl (fun _ _ => .inl (by simp)) harr⟩
  obtain ⟨e, a', w', hq, harr⟩ := key _ i a w rfl hs
  exact ⟨e, a', w', hq, .of_steps (.one step_loop) harr⟩
end
end Go.Fw

/- Abstract values and what they say of memory: definitions and their first laws. Plain theorems, no condition. -/
import Derived.Laws.AppendOwn
import Derived.Laws.OwnMore
import Derived.Below
import Derived.Deep.Quiet
import Derived.KernelRfl
import Derived.Laws.Strings
import Derived.Laws.Shifts
import Derived.Laws.BytesString
set_option linter.unusedVariables false
set_option linter.unusedSimpArgs false
namespace Go.Fw

/-- Abstract values: 'sc' a scalar; 'nil' the nil slice; 'sl o n xs' a slice of elements xs, each of n cells (o: held by nobody else);
 'vw r off len' a slice into own row r; 'pt r j o' the address of cell o of element j of own row r; 'rp xs' an address from which the cells xs are read;
 'bx xs' a pointer, held by nobody else, to a variable with the cells xs; 'clo g caps' a function value; 'un' not known. -/
inductive A where
  | un
  | sc (v : Value)
  | nil
  | sl (o : Bool) (n : Nat) (xs : List A)
  | agg (xs : List A)
  | tup (xs : List A)
  | vw (r off len : Nat)
  | pt (r j o : Nat)
  | rp (xs : List A)
  | bx (xs : List A)
  | clo (g : Nat) (caps : List A)
  deriving Inhabited

def A.cells : A → List A
  | .agg xs => xs
  | x => [x]
def A.width (x : A) : Nat := x.cells.length
def flat (xs : List A) : List A := xs.flatMap A.cells

def cellV (v : Value) : Bool := v.oneCell'

/-- The value of a function: with captured values; a number from 1000000 on: with bound values ahead. -/
def mkFn (g : Nat) (cs : List Value) : Value := if g < 1000000 then .func (.func g) #[] cs.toArray else .func (.func (g % 1000000)) cs.toArray #[]
theorem mkFn_cell (g : Nat) (cs : List Value) : cellV (mkFn g cs) = true := by unfold mkFn; split <;> rfl
mutual
/-- What memory says: value v is told by x; the blocks F are held by it alone; all else that is read lies in blocks of G. -/
inductive Rel (w : World) (G : Nat → Prop) : A → Value → List Nat → Prop
  | un {v : Value} (h : cellV v = true) : Rel w G .un v []
  | sc {v : Value} (h : cellV v = true) : Rel w G (.sc v) v []
  | nil : Rel w G .nil (.slice none 0 0) []
  | nils {o : Bool} {n : Nat} : Rel w G (.sl o n []) (.slice none 0 0) []
  | roz {n : Nat} {a : Addr} : Rel w G (.sl false n []) (.slice (some a) 0 0) []
  | ro {n : Nat} {xs : List A} {b k len cap : Nat} {cur : Array Value} {e : TypeId} {fr : Nat × Nat} {cs : List Value}
      (hh : w.heap[b]? = some (.cells cur e fr)) (hg : G b) (hw : ∀ x ∈ xs, x.width = n) (hlen : len = xs.length)
      (hc : cs = (cur.toList.drop k).take (len * n)) (hl : RelL w G (flat xs) cs []) (hcap : len ≤ cap) (hm : cap ≤ maxLen) :
      Rel w G (.sl false n xs) (.slice (some ⟨b, k, none⟩) len cap) []
  | ow {n : Nat} {xs : List A} {b len cap : Nat} {cur : Array Value} {e : TypeId} {cs : List Value} {F : List Nat}
      (hh : w.heap[b]? = some (.cells cur e (0, 0))) (hw : ∀ x ∈ xs, x.width = n) (hlen : len = xs.length)
      (hc : cs = cur.toList.take (len * n)) (hl : RelL w G (flat xs) cs F) (hcap : len ≤ cap) (hm : cap ≤ maxLen) (hs : cur.size = cap * n) (hv : ∀ v ∈ cs, cellV v = true) :
      Rel w G (.sl true n xs) (.slice (some ⟨b, 0, none⟩) len cap) (b :: F)
  | agg {xs : List A} {cs : List Value} {F : List Nat} (hl : RelL w G xs cs F) : Rel w G (.agg xs) (.agg cs.toArray) F
  | tup {xs : List A} {cs : List Value} {F : List Nat} (hl : RelL w G xs cs F) : Rel w G (.tup xs) (.tuple cs.toArray) F
  | rp {xs : List A} {b k : Nat} {cur : Array Value} {e : TypeId} {fr : Nat × Nat} {cs : List Value}
      (hh : w.heap[b]? = some (.cells cur e fr)) (hg : G b) (hc : cs = (cur.toList.drop k).take xs.length) (hl : RelL w G xs cs []) :
      Rel w G (.rp xs) (.pointer (some ⟨b, k, none⟩)) []
  | bx {xs : List A} {b : Nat} {cur : Array Value} {e : TypeId} {F : List Nat}
      (hh : w.heap[b]? = some (.cells cur e (0, 0))) (hl : RelL w G xs cur.toList F) (hv : ∀ v ∈ cur.toList, cellV v = true) : Rel w G (.bx xs) (.pointer (some ⟨b, 0, none⟩)) (b :: F)
  | clo {g : Nat} {caps : List A} {cs : List Value} {F : List Nat} (hl : RelL w G caps cs F) : Rel w G (.clo g caps) (mkFn g cs) F
inductive RelL (w : World) (G : Nat → Prop) : List A → List Value → List Nat → Prop
  | nil : RelL w G [] [] []
  | cons {x : A} {v : Value} {F : List Nat} {xs : List A} {vs : List Value} {Fs : List Nat} (h : Rel w G x v F) (hl : RelL w G xs vs Fs) :
      RelL w G (x :: xs) (v :: vs) (F ++ Fs)
end

theorem RelL.length {w : World} {G : Nat → Prop} : ∀ {xs : List A} {vs : List Value} {F : List Nat}, RelL w G xs vs F → vs.length = xs.length
  | _, _, _, .nil => rfl
  | _, _, _, .cons _ hl => by simp [hl.length]

/-- Memory that is not looked at may turn. -/
theorem Rel.move_ {w w' : World} {G G' : Nat → Prop} : ∀ {x : A} {v : Value} {F : List Nat}, Rel w G x v F →
    (∀ b, G b → G' b ∧ w'.heap[b]? = w.heap[b]?) → (∀ b ∈ F, w'.heap[b]? = w.heap[b]?) → Rel w' G' x v F := by
  intro x v F h
  refine Rel.rec (motive_1 := fun x v F _ => (∀ b, G b → G' b ∧ w'.heap[b]? = w.heap[b]?) → (∀ b ∈ F, w'.heap[b]? = w.heap[b]?) → Rel w' G' x v F)
    (motive_2 := fun xs vs F _ => (∀ b, G b → G' b ∧ w'.heap[b]? = w.heap[b]?) → (∀ b ∈ F, w'.heap[b]? = w.heap[b]?) → RelL w' G' xs vs F)
    ?_ ?_ ?_ ?_ ?_ ?_ ?_ ?_ ?_ ?_ ?_ ?_ ?_ ?_ h
  · intro v h _ _; exact .un h
  · intro v h _ _; exact .sc h
  · intro _ _; exact .nil
  · intro _ _ _ _; exact .nils
  · intro _ _ _ _; exact .roz
  · intro n xs b k len cap cur e fr cs hh hg hw hlen hc hl hcap hm ih h1 h2
    exact .ro (by rw [(h1 b hg).2]; exact hh) (h1 b hg).1 hw hlen hc (ih h1 (by simp)) hcap hm
  · intro n xs b len cap cur e cs F hh hw hlen hc hl hcap hm hs hv ih h1 h2
    exact .ow (by rw [h2 b (by simp)]; exact hh) hw hlen hc (ih h1 fun c hc => h2 c (by simp [hc])) hcap hm hs hv
  · intro xs cs F hl ih h1 h2; exact .agg (ih h1 h2)
  · intro xs cs F hl ih h1 h2; exact .tup (ih h1 h2)
  · intro xs b k cur e fr cs hh hg hc hl ih h1 h2
    exact .rp (by rw [(h1 b hg).2]; exact hh) (h1 b hg).1 hc (ih h1 (by simp))
  · intro xs b cur e F hh hl hv ih h1 h2
    exact .bx (by rw [h2 b (by simp)]; exact hh) (ih h1 fun c hc => h2 c (by simp [hc])) hv
  · intro g caps cs F hl ih h1 h2; exact .clo (ih h1 h2)
  · intro _ _; exact .nil
  · intro x v F xs vs Fs h hl ih ih' h1 h2
    exact .cons (ih h1 fun b hb => h2 b (by simp [hb])) (ih' h1 fun b hb => h2 b (by simp [hb]))

theorem RelL.move_ {w w' : World} {G G' : Nat → Prop} (hG : ∀ b, G b → G' b ∧ w'.heap[b]? = w.heap[b]?) : ∀ {xs : List A} {vs : List Value} {F : List Nat}, RelL w G xs vs F →
    (∀ b ∈ F, w'.heap[b]? = w.heap[b]?) → RelL w' G' xs vs F
  | _, _, _, .nil, _ => .nil
  | _, _, _, .cons h hl, h2 => .cons (h.move_ hG fun b hb => h2 b (by simp [hb])) (hl.move_ hG fun b hb => h2 b (by simp [hb]))

theorem RelL.append {w : World} {G : Nat → Prop} {ys : List A} {us : List Value} {F' : List Nat} :
    ∀ {xs : List A} {vs : List Value} {F : List Nat}, RelL w G xs vs F → RelL w G ys us F' → RelL w G (xs ++ ys) (vs ++ us) (F ++ F')
  | _, _, _, .nil, h' => by simpa using h'
  | _, _, _, .cons (F := F) (Fs := Fs) h hl, h' => by
    have := RelL.cons h (hl.append h')
    simpa [List.append_assoc] using this

/-- A list in two parts. -/
theorem RelL.split {w : World} {G : Nat → Prop} : ∀ {xs ys : List A} {vs : List Value} {F : List Nat}, RelL w G (xs ++ ys) vs F →
    ∃ F1 F2, F = F1 ++ F2 ∧ RelL w G xs (vs.take xs.length) F1 ∧ RelL w G ys (vs.drop xs.length) F2
  | [], ys, vs, F, h => ⟨[], F, rfl, by simpa using RelL.nil, by simpa using h⟩
  | x :: xs, ys, _, _, .cons (F := F) (Fs := Fs) h hl => by
    obtain ⟨F1, F2, rfl, h1, h2⟩ := hl.split (xs := xs)
    exact ⟨F ++ F1, F2, by simp, by simpa using RelL.cons h h1, by simpa using h2⟩

theorem RelL.take_ {w : World} {G : Nat → Prop} {xs : List A} {vs : List Value} {F : List Nat} (h : RelL w G xs vs F) (n : Nat) :
    ∃ F1 F2, F = F1 ++ F2 ∧ RelL w G (xs.take n) (vs.take n) F1 ∧ RelL w G (xs.drop n) (vs.drop n) F2 := by
  have hl := h.length
  rw [← List.take_append_drop n xs] at h
  obtain ⟨F1, F2, e, h1, h2⟩ := h.split
  by_cases hn : n ≤ xs.length
  · rw [List.length_take, Nat.min_eq_left hn] at h1 h2
    exact ⟨F1, F2, e, h1, h2⟩
  · have hn' : xs.length ≤ n := by omega
    rw [List.take_of_length_le hn', List.drop_eq_nil_of_le hn', List.take_of_length_le (by omega), List.drop_eq_nil_of_le (by omega)]
    rw [List.take_of_length_le hn', List.take_of_length_le (by omega)] at h1
    rw [List.drop_eq_nil_of_le hn', List.take_of_length_le hn', List.drop_eq_nil_of_le (by omega)] at h2
    exact ⟨F1, F2, e, h1, h2⟩

/-- Nothing but what is read. -/
theorem RelL.get {w : World} {G : Nat → Prop} : ∀ {xs : List A} {vs : List Value}, RelL w G xs vs [] → ∀ (i : Nat) (x : A), xs[i]? = some x → ∃ v, vs[i]? = some v ∧ Rel w G x v []
  | _, _, h, i, x, hx => by
    generalize hF : ([] : List Nat) = F at h
    cases h with
    | nil => simp at hx
    | cons h hl =>
      rename_i y v F xs vs Fs
      have hF' : F = [] ∧ Fs = [] := by simpa using hF.symm
      obtain ⟨rfl, rfl⟩ := hF'
      cases i with
      | zero => simp at hx; subst hx; exact ⟨_, rfl, h⟩
      | succ i => simpa using hl.get i x (by simpa using hx)
theorem RelL.take0 {w : World} {G : Nat → Prop} {xs : List A} {vs : List Value} (h : RelL w G xs vs []) (n : Nat) : RelL w G (xs.take n) (vs.take n) [] := by
  obtain ⟨F1, F2, e, h1, h2⟩ := h.take_ n
  have : F1 = [] ∧ F2 = [] := by simpa using e.symm
  rw [this.1] at h1
  exact h1
theorem RelL.drop0 {w : World} {G : Nat → Prop} {xs : List A} {vs : List Value} (h : RelL w G xs vs []) (n : Nat) : RelL w G (xs.drop n) (vs.drop n) [] := by
  obtain ⟨F1, F2, e, h1, h2⟩ := h.take_ n
  have : F1 = [] ∧ F2 = [] := by simpa using e.symm
  rw [this.2] at h2
  exact h2

theorem Rel.lt {w : World} {G : Nat → Prop} {x : A} {v : Value} {F : List Nat} (h : Rel w G x v F) : ∀ b ∈ F, b < w.heap.size := by
  refine Rel.rec (motive_1 := fun x v F _ => ∀ b ∈ F, b < w.heap.size) (motive_2 := fun xs vs F _ => ∀ b ∈ F, b < w.heap.size)
    ?_ ?_ ?_ ?_ ?_ ?_ ?_ ?_ ?_ ?_ ?_ ?_ ?_ ?_ h
  · intros; simp_all
  · intros; simp_all
  · intros; simp_all
  · intros; simp_all
  · intros; simp_all
  · intros; simp_all
  · intro n xs b len cap cur e cs F hh hw hlen hc hl hcap hm hs hv ih c hc
    rcases List.mem_cons.1 hc with rfl | hc
    · exact (Array.getElem?_eq_some_iff.1 hh).1
    · exact ih c hc
  · intro xs cs F hl ih; exact ih
  · intro xs cs F hl ih; exact ih
  · intros; simp_all
  · intro xs b cur e F hh hl hv ih c hc
    rcases List.mem_cons.1 hc with rfl | hc
    · exact (Array.getElem?_eq_some_iff.1 hh).1
    · exact ih c hc
  · intro g caps cs F hl ih; exact ih
  · intros; simp_all
  · intro x v F xs vs Fs h hl ih ih' b hb
    rcases List.mem_append.1 hb with hb | hb
    · exact ih b hb
    · exact ih' b hb
theorem RelL.lt {w : World} {G : Nat → Prop} : ∀ {xs : List A} {vs : List Value} {F : List Nat}, RelL w G xs vs F → ∀ b ∈ F, b < w.heap.size
  | _, _, _, .nil, _, hb => by simp at hb
  | _, _, _, .cons h hl, b, hb => by
    rcases List.mem_append.1 hb with hb | hb
    · exact h.lt b hb
    · exact hl.lt b hb

/- Own parts told as read-only ones. -/
mutual
def frz : A → A
  | .sl _ n xs => .sl false n (frzL xs)
  | .agg xs => .agg (frzL xs)
  | .tup xs => .tup (frzL xs)
  | .rp xs => .rp (frzL xs)
  | .bx xs => .rp (frzL xs)
  | .clo g xs => .clo g (frzL xs)
  | .un => .un
  | .sc v => .sc v
  | .nil => .nil
  | .vw r i l => .vw r i l
  | .pt r j o => .pt r j o
def frzL : List A → List A
  | [] => []
  | x :: xs => frz x :: frzL xs
end
theorem frzL_eq : ∀ xs : List A, frzL xs = xs.map frz
  | [] => rfl
  | x :: xs => by rw [frzL, frzL_eq xs]; rfl
theorem frz_sl (o : Bool) (n : Nat) (xs : List A) : frz (.sl o n xs) = .sl false n (xs.map frz) := by rw [frz, frzL_eq]
theorem frz_agg (xs : List A) : frz (.agg xs) = .agg (xs.map frz) := by rw [frz, frzL_eq]
theorem frz_tup (xs : List A) : frz (.tup xs) = .tup (xs.map frz) := by rw [frz, frzL_eq]
theorem frz_rp (xs : List A) : frz (.rp xs) = .rp (xs.map frz) := by rw [frz, frzL_eq]
theorem frz_bx (xs : List A) : frz (.bx xs) = .rp (xs.map frz) := by rw [frz, frzL_eq]
theorem frz_clo (g : Nat) (xs : List A) : frz (.clo g xs) = .clo g (xs.map frz) := by rw [frz, frzL_eq]
theorem frz_sc (v : Value) : frz (.sc v) = .sc v := rfl
theorem frz_nil : frz .nil = .nil := rfl
theorem frz_un : frz .un = .un := rfl
theorem cells_frz (x : A) : (frz x).cells = x.cells.map frz := by
  cases x <;> simp [frz_sl, frz_agg, frz_tup, frz_rp, frz_bx, frz_clo, frz_sc, frz_nil, frz_un, A.cells] <;> rfl
theorem flat_frz (xs : List A) : flat (xs.map frz) = (flat xs).map frz := by
  induction xs with
  | nil => rfl
  | cons x xs ih => simp only [flat, List.map_cons, List.flatMap_cons, List.map_append] at *; rw [ih, cells_frz]
theorem width_frz (x : A) : (frz x).width = x.width := by simp [A.width, cells_frz]

theorem Rel.frz {w : World} {G : Nat → Prop} {x : A} {v : Value} {F : List Nat} (h : Rel w G x v F) {G' : Nat → Prop} (hG : ∀ b, G b → G' b) (hF : ∀ b ∈ F, G' b) : Rel w G' (frz x) v [] := by
  refine Rel.rec (motive_1 := fun x v F _ => (∀ b ∈ F, G' b) → Rel w G' (Fw.frz x) v []) (motive_2 := fun xs vs F _ => (∀ b ∈ F, G' b) → RelL w G' (xs.map Fw.frz) vs [])
    ?_ ?_ ?_ ?_ ?_ ?_ ?_ ?_ ?_ ?_ ?_ ?_ ?_ ?_ h hF
  · intro v h _; rw [frz_un]; exact .un h
  · intro v h _; rw [frz_sc]; exact .sc h
  · intro _; rw [frz_nil]; exact .nil
  · intro _ _ _; rw [frz_sl]; exact .nils
  · intro _ _ _; rw [frz_sl]; exact .roz
  · intro n xs b k len cap cur e fr cs hh hg hw hlen hc hl hcap hm ih _
    rw [frz_sl]
    exact .ro hh (hG b hg) (fun y hy => by obtain ⟨x, hx, rfl⟩ := List.mem_map.1 hy; rw [width_frz]; exact hw x hx) (by simpa using hlen) hc (by rw [flat_frz]; exact ih (by simp)) hcap hm
  · intro n xs b len cap cur e cs F hh hw hlen hc hl hcap hm hs hv ih h2
    rw [frz_sl]
    exact .ro (k := 0) hh (h2 b (by simp)) (fun y hy => by obtain ⟨x, hx, rfl⟩ := List.mem_map.1 hy; rw [width_frz]; exact hw x hx) (by simpa using hlen) (by simpa using hc)
      (by rw [flat_frz]; exact ih fun c hc => h2 c (by simp [hc])) hcap hm
  · intro xs cs F hl ih h2; rw [frz_agg]; exact .agg (ih h2)
  · intro xs cs F hl ih h2; rw [frz_tup]; exact .tup (ih h2)
  · intro xs b k cur e fr cs hh hg hc hl ih h2
    rw [frz_rp]
    exact .rp hh (hG b hg) (by simpa using hc) (ih (by simp))
  · intro xs b cur e F hh hl hv ih h2
    rw [frz_bx]
    have hlen := hl.length
    exact .rp (k := 0) hh (h2 b (by simp)) (by simp; rw [List.take_of_length_le (by omega)]) (ih fun c hc => h2 c (by simp [hc]))
  · intro g caps cs F hl ih h2; rw [frz_clo]; exact .clo (ih h2)
  · intro _; exact .nil
  · intro x v F xs vs Fs h hl ih ih' h2
    have := RelL.cons (ih fun b hb => h2 b (by simp [hb])) (ih' fun b hb => h2 b (by simp [hb]))
    simpa using this

/- Of what is held alone the blocks are apart: asked where it counts. Told anew in any G, if nothing is read-only in it. -/
mutual
def roFree : A → Bool
  | .sl o _ xs => o && roFreeL xs
  | .agg xs => roFreeL xs
  | .tup xs => roFreeL xs
  | .bx xs => roFreeL xs
  | .rp _ => false
  | .clo _ xs => roFreeL xs
  | .un => true
  | .sc _ => true
  | .nil => true
  | .vw _ _ _ => true
  | .pt _ _ _ => true
def roFreeL : List A → Bool
  | [] => true
  | x :: xs => roFree x && roFreeL xs
end
theorem roFreeL_eq : ∀ xs : List A, roFreeL xs = xs.all roFree
  | [] => rfl
  | x :: xs => by rw [roFreeL, roFreeL_eq xs]; rfl
theorem roFree_sl (o : Bool) (n : Nat) (xs : List A) : roFree (.sl o n xs) = (o && xs.all roFree) := by rw [roFree, roFreeL_eq]
theorem roFree_agg (xs : List A) : roFree (.agg xs) = xs.all roFree := by rw [roFree, roFreeL_eq]
theorem roFree_tup (xs : List A) : roFree (.tup xs) = xs.all roFree := by rw [roFree, roFreeL_eq]
theorem roFree_bx (xs : List A) : roFree (.bx xs) = xs.all roFree := by rw [roFree, roFreeL_eq]
theorem roFree_rp (xs : List A) : roFree (.rp xs) = false := rfl
theorem roFree_clo (g : Nat) (xs : List A) : roFree (.clo g xs) = xs.all roFree := by rw [roFree, roFreeL_eq]
theorem roFree_sc (v : Value) : roFree (.sc v) = true := rfl
theorem roFree_nil : roFree .nil = true := rfl
theorem roFree_un : roFree .un = true := rfl
theorem roFree_cells {x : A} (h : roFree x = true) : ∀ y ∈ x.cells, roFree y = true := by
  cases x <;> simp [A.cells] <;> first | exact h | (intro y hy; rw [roFree_agg] at h; exact List.all_eq_true.1 h y hy)
theorem roFree_flat {xs : List A} (h : xs.all roFree = true) : (flat xs).all roFree = true := by
  refine List.all_eq_true.2 fun y hy => ?_
  obtain ⟨x, hx, hy⟩ := List.mem_flatMap.1 hy
  exact roFree_cells (List.all_eq_true.1 h x hx) y hy

theorem Rel.anyG {w : World} {G : Nat → Prop} {x : A} {v : Value} {F : List Nat} (h : Rel w G x v F) (hf : roFree x = true) (G' : Nat → Prop) : Rel w G' x v F := by
  refine Rel.rec (motive_1 := fun x v F _ => roFree x = true → Rel w G' x v F) (motive_2 := fun xs vs F _ => xs.all roFree = true → RelL w G' xs vs F)
    ?_ ?_ ?_ ?_ ?_ ?_ ?_ ?_ ?_ ?_ ?_ ?_ ?_ ?_ h hf
  · intro v h _; exact .un h
  · intro v h _; exact .sc h
  · intro _; exact .nil
  · intro _ _ _; exact .nils
  · intro _ _ _; exact .roz
  · intro n xs b k len cap cur e fr cs hh hg hw hlen hc hl hcap hm ih hf
    simp [roFree_sl] at hf
  · intro n xs b len cap cur e cs F hh hw hlen hc hl hcap hm hs hv ih hf
    rw [roFree_sl, Bool.true_and] at hf
    exact .ow hh hw hlen hc (ih (roFree_flat hf)) hcap hm hs hv
  · intro xs cs F hl ih hf; exact .agg (ih (by rwa [roFree_agg] at hf))
  · intro xs cs F hl ih hf; exact .tup (ih (by rwa [roFree_tup] at hf))
  · intro xs b k cur e fr cs hh hg hc hl ih hf
    simp [roFree_rp] at hf
  · intro xs b cur e F hh hl hv ih hf
    exact .bx hh (ih (by rwa [roFree_bx] at hf)) hv
  · intro g caps cs F hl ih hf; exact .clo (ih (by rwa [roFree_clo] at hf))
  · intro _; exact .nil
  · intro x v F xs vs Fs h hl ih ih' hf
    simp only [List.all_cons, Bool.and_eq_true] at hf
    exact .cons (ih hf.1) (ih' hf.2)
end Go.Fw

/- Abstract states: temporaries, own rows, and what they say of a frame and a world. Plain theorems, no condition. -/
set_option linter.unusedVariables false
set_option linter.unusedSimpArgs false
namespace Go.Fw

/-- A row of the call's own: elements of n cells each. 'lk': its cells may lead to other own rows. -/
structure Row where
  n : Nat
  xs : List A
  lk : Bool
structure State where
  t : List (Nat × A)
  N : Nat
  rows : List (Option Row)

def lk : List (Nat × A) → Nat → A
  | [], _ => .un
  | (k, x) :: l, i => if k = i then x else lk l i
def rowAt (rows : List (Option Row)) (r : Nat) : Option Row := (rows[r]?).getD none

/-- Of each row: its block (none: the nil slice), and the blocks that its cells alone hold. -/
abbrev Gh := Nat → Option Nat × List Nat
def Gh.all (gs : Gh) (r : Nat) : List Nat := (gs r).1.toList ++ (gs r).2

mutual
/-- What a temporary, or a cell of a row that leads on, says. -/
inductive TRel (w : World) (G : Nat → Prop) (rows : List (Option Row)) (gs : Gh) : A → Value → List Nat → Prop
  | un {v : Value} : TRel w G rows gs .un v []
  | of {x : A} {v : Value} {F : List Nat} (h : Rel w G x v F) : TRel w G rows gs x v F
  | vw {r off len k cap b : Nat} {row : Row} {cur : Array Value} {e : TypeId}
      (hr : rowAt rows r = some row) (hb : (gs r).1 = some b) (hl : off + len ≤ row.xs.length) (hh : w.heap[b]? = some (.cells cur e (0, 0)))
      (hs : cur.size = cap * row.n) (hm : cap ≤ maxLen) (hc : row.xs.length ≤ cap) (hk : k = off * row.n ∨ (cap = off ∧ 0 < off)) :
      TRel w G rows gs (.vw r off len) (.slice (some ⟨b, k, none⟩) len (cap - off)) []
  | vwn {r : Nat} {row : Row} (hr : rowAt rows r = some row) (hb : (gs r).1 = none) (hx : row.xs = []) : TRel w G rows gs (.vw r 0 0) (.slice none 0 0) []
  | pt {r j o k b : Nat} {row : Row} (hr : rowAt rows r = some row) (hb : (gs r).1 = some b) (hk : k = j * row.n + o) : TRel w G rows gs (.pt r j o) (.pointer (some ⟨b, k, none⟩)) []
  | agg {xs : List A} {cs : List Value} {F : List Nat} (hl : TRelL w G rows gs xs cs F) : TRel w G rows gs (.agg xs) (.agg cs.toArray) F
  | tup {xs : List A} {cs : List Value} {F : List Nat} (hl : TRelL w G rows gs xs cs F) : TRel w G rows gs (.tup xs) (.tuple cs.toArray) F
  | clo {g : Nat} {caps : List A} {cs : List Value} {F : List Nat} (hl : TRelL w G rows gs caps cs F) : TRel w G rows gs (.clo g caps) (mkFn g cs) F
inductive TRelL (w : World) (G : Nat → Prop) (rows : List (Option Row)) (gs : Gh) : List A → List Value → List Nat → Prop
  | nil : TRelL w G rows gs [] [] []
  | cons {x : A} {v : Value} {F : List Nat} {xs : List A} {vs : List Value} {Fs : List Nat} (h : TRel w G rows gs x v F) (hl : TRelL w G rows gs xs vs Fs) :
      TRelL w G rows gs (x :: xs) (v :: vs) (F ++ Fs)
end

theorem TRelL.length {w : World} {G : Nat → Prop} {rows : List (Option Row)} {gs : Gh} : ∀ {xs : List A} {vs : List Value} {F : List Nat}, TRelL w G rows gs xs vs F → vs.length = xs.length
  | _, _, _, .nil => rfl
  | _, _, _, .cons _ hl => by simp [hl.length]
theorem TRelL.of {w : World} {G : Nat → Prop} {rows : List (Option Row)} {gs : Gh} : ∀ {xs : List A} {vs : List Value} {F : List Nat}, RelL w G xs vs F → TRelL w G rows gs xs vs F
  | _, _, _, .nil => .nil
  | _, _, _, .cons h hl => .cons (.of h) (.of hl)

/-- The cells of a row. -/
def CellsRel (lk : Bool) (w : World) (G : Nat → Prop) (rows : List (Option Row)) (gs : Gh) (xs : List A) (cs : List Value) (F : List Nat) : Prop :=
  if lk then TRelL w G rows gs xs cs F else RelL w G xs cs F

structure RowCells (w : World) (G : Nat → Prop) (rows : List (Option Row)) (gs : Gh) (row : Row) (b : Nat) (F : List Nat) : Prop where
  ex : ∃ (cur : Array Value) (e : TypeId) (cap : Nat), w.heap[b]? = some (.cells cur e (0, 0)) ∧ cur.size = cap * row.n ∧ row.xs.length ≤ cap ∧ cap ≤ maxLen ∧
    (∀ x ∈ row.xs, x.width = row.n) ∧ (∀ v ∈ cur.toList.take (row.xs.length * row.n), cellV v = true) ∧ CellsRel row.lk w G rows gs (flat row.xs) (cur.toList.take (row.xs.length * row.n)) F
def RowRel (w : World) (G : Nat → Prop) (rows : List (Option Row)) (gs : Gh) (row : Row) (ob : Option Nat) (F : List Nat) : Prop :=
  match ob with
  | some b => RowCells w G rows gs row b F
  | none => row.xs = [] ∧ F = []

/-- The surroundings of a call: the world that it came from, the blocks that may be read then, the blocks that it may turn. -/
structure Env where
  w0 : World
  G0 : Nat → Prop
  Fin : Nat → Prop
  gv : Nat → Value
/-- The temporaries; behind them, values that are kept in mind. -/
def vat (E : Env) (tmps : Array Value) (i : Nat) : Value := if i < tmps.size then tmps.getD i undef else E.gv i

structure Inv (E : Env) (G : Nat → Prop) (gs : Gh) (S : State) (tmps : Array Value) (w : World) : Prop where
  keep : ∀ b, b < E.w0.heap.size → ¬ E.Fin b → w.heap[b]? = E.w0.heap[b]?
  os : w.os = E.w0.os
  tape : w.tape = E.w0.tape
  output : w.output = E.w0.output
  size : E.w0.heap.size ≤ w.heap.size
  sz : tmps.size = S.N
  gsub : ∀ b, E.G0 b → G b
  gnew : ∀ b, G b → E.G0 b ∨ E.w0.heap.size ≤ b
  glt : ∀ b, G b → b < w.heap.size
  row : ∀ r row, rowAt S.rows r = some row → RowRel w G S.rows gs row (gs r).1 (gs r).2
  nod : ∀ r row, rowAt S.rows r = some row → (gs.all r).Nodup
  own : ∀ r row, rowAt S.rows r = some row → ∀ b ∈ gs.all r, ¬ G b ∧ (E.Fin b ∨ E.w0.heap.size ≤ b)
  dis : ∀ r r' row row', rowAt S.rows r = some row → rowAt S.rows r' = some row' → r ≠ r' → ∀ b ∈ gs.all r, b ∉ gs.all r'
  tmp : ∀ i, TRel w G S.rows gs (lk S.t i) (vat E tmps i) []

def SInv (E : Env) (S : State) (a : Act) (w : World) : Prop := a.defers = [] ∧ ∃ G gs, Inv E G gs S a.tmps w

def VC (P : Program) (c : Code) (S : State) (K : Exit → State → Prop) : Prop :=
  ∀ E a w, SInv E S a w → c.wp P (fun e a' w' => ∃ S', SInv E S' a' w' ∧ K e S') a w

section
variable {P : Program} {S : State} {K : Exit → State → Prop}
theorem VC.mono {c : Code} {K' : Exit → State → Prop} (h : VC P c S K) (hk : ∀ e S', K e S' → K' e S') : VC P c S K' :=
  fun E a w hs => wp_mono (h E a w hs) fun e a' w' ⟨S', h1, h2⟩ => ⟨S', h1, hk _ _ h2⟩
theorem VC_skip (h : K .normal S) : VC P .skip S K := fun E a w hs => wp_skip ⟨S, hs, h⟩
theorem VC_exit {id : Nat} (h : K (.exit id) S) : VC P (.exit id) S K := fun E a w hs => wp_exit ⟨S, hs, h⟩
theorem VC_ret (h : K .ret S) : VC P .ret S K := fun E a w hs => wp_ret ⟨S, hs, h⟩
def thenK (next : State → Prop) (K : Exit → State → Prop) : Exit → State → Prop
  | .normal, S => next S
  | e, S => K e S
theorem VC_seq {x y : Code} (h : VC P x S (thenK (fun S' => VC P y S' K) K)) : VC P (.seq x y) S K := by
  intro E a w hs
  refine wp_seq (wp_mono (h E a w hs) ?_)
  intro e a' w' hh
  obtain ⟨S', h1, h2⟩ := hh
  cases e <;> first | exact h2 E a' w' h1 | exact ⟨S', h1, h2⟩
def blockK (id : Nat) (K : Exit → State → Prop) : Exit → State → Prop
  | .exit id', S => if id' = id then K .normal S else K (.exit id') S
  | e, S => K e S
theorem VC_block {id : Nat} {c : Code} (h : VC P c S (blockK id K)) : VC P (.block id c) S K := by
  intro E a w hs
  refine wp_block (wp_mono (h E a w hs) ?_)
  intro e a' w' hh
  obtain ⟨S', h1, h2⟩ := hh
  cases e <;> first | exact ⟨S', h1, h2⟩ | skip
  rename_i id'
  simp only [blockK] at h2
  simp only [Exit.inBlock]
  split <;> rename_i hid
  · rw [if_pos hid] at h2; exact ⟨S', h1, h2⟩
  · rw [if_neg hid] at h2; exact ⟨S', h1, h2⟩
/-- The same but for less known. -/
def Sbs (S S' : State) : Prop := ∀ E a w, SInv E S a w → SInv E S' a w
theorem Sbs.refl (S : State) : Sbs S S := fun _ _ _ h => h
theorem VC.sub {c : Code} {S' : State} (h : VC P c S' K) (hs : Sbs S S') : VC P c S K := fun E a w h0 => h E a w (hs E a w h0)
def subT (t t' : List (Nat × A)) : Prop := ∀ p ∈ t', lk t' p.1 = lk t p.1
theorem lk_of_not_mem : ∀ {t : List (Nat × A)} {i : Nat}, (∀ p ∈ t, p.1 ≠ i) → lk t i = .un
  | [], _, _ => rfl
  | (k, x) :: l, i, h => by
    have h1 : k ≠ i := h (k, x) (by simp)
    simp only [lk, if_neg h1]
    exact lk_of_not_mem fun p hp => h p (by simp [hp])
theorem Sbs.of {t t' : List (Nat × A)} {N : Nat} {rows : List (Option Row)} (h : subT t t') : Sbs ⟨t, N, rows⟩ ⟨t', N, rows⟩ := by
  intro E a w hs
  obtain ⟨hd, G, gs, hi⟩ := hs
  refine ⟨hd, G, gs, ⟨hi.keep, hi.os, hi.tape, hi.output, hi.size, hi.sz, hi.gsub, hi.gnew, hi.glt, hi.row, hi.nod, hi.own, hi.dis, fun i => ?_⟩⟩
  show TRel w G rows gs (lk t' i) (vat E a.tmps i) []
  by_cases hm : ∃ p ∈ t', p.1 = i
  · obtain ⟨p, hp, rfl⟩ := hm
    rw [h p hp]
    exact hi.tmp p.1
  · rw [lk_of_not_mem fun p hp e => hm ⟨p, hp, e⟩]
    exact .un
/-- A loop: states by an index, a measure that each round lowers. -/
theorem VC_loop {ι : Type} {c : Code} (I : ι → State) (μ : ι → Nat)
    (h : ∀ i, VC P c (I i) (thenK (fun S' => ∃ j, μ j < μ i ∧ Sbs S' (I j)) K)) (i : ι) : VC P (.loop c) (I i) K := by
  intro E a w hs b k cs
  have key : ∀ n i a w, μ i = n → SInv E (I i) a w →
      ∃ e a' w', (∃ S', SInv E S' a' w' ∧ K e S') ∧ Arrives P (lone (b.at a (.code c :: .inLoop c :: k)) cs w) b k cs e a' w' := by
    intro n
    induction n using Nat.strongRecOn with
    | _ n ih =>
      intro i a w hn hI
      obtain ⟨e, a₁, w₁, ⟨S1, hS1, hq⟩, harr⟩ := h i E a w hI b (.inLoop c :: k) cs
      cases e with
      | normal =>
        obtain ⟨j, hlt, hsub⟩ := hq
        obtain ⟨e₂, a₂, w₂, hq₂, harr₂⟩ := ih (μ j) (hn ▸ hlt) j a₁ w₁ rfl (hsub E a₁ w₁ hS1)
        exact ⟨e₂, a₂, w₂, hq₂, .of_steps (Steps.trans harr (.one step_inLoop)) harr₂⟩
      | exit id => exact ⟨_, a₁, w₁, ⟨S1, hS1, hq⟩, .pass (x := .inLoop c) rfl (fun _ _ => .inl (by simp)) harr⟩
      | goto l => exact ⟨_, a₁, w₁, ⟨S1, hS1, hq⟩, .pass (x := .inLoop c) rfl (fun _ _ => .inl (by simp)) harr⟩
      | ret => exact ⟨_, a₁, w₁, ⟨S1, hS1, hq⟩, .pass (x := .inLoop c) rfl (fun _ _ => .inl (by simp)) harr⟩
      | panic ch => exact ⟨_, a₁, w₁, ⟨S1, hS1, hq⟩, .pass (x := .inLoop c) rfl (fun _ _ => .inl (by simp)) harr⟩
      | outgrown => exact ⟨_, a₁, w₁, ⟨S1, hS1, hq⟩, .pass (x := .inLoop c) rfl (fun _ _ => .inl (by simp)) harr⟩
  obtain ⟨e, a', w', hq, harr⟩ := key _ i a w rfl hs
  exact ⟨e, a', w', hq, .of_steps (.one step_loop) harr⟩
end
end Go.Fw

/- How what is told of temporaries and rows is carried over a step. Plain theorems, no condition. -/
set_option linter.unusedVariables false
set_option linter.unusedSimpArgs false
namespace Go.Fw

/- What led into row r is no more known. -/
mutual
def kill (r : Nat) : A → A
  | .vw r' off len => if r' = r then .un else .vw r' off len
  | .pt r' j o => if r' = r then .un else .pt r' j o
  | .agg xs => .agg (killL r xs)
  | .tup xs => .tup (killL r xs)
  | .clo g xs => .clo g (killL r xs)
  | .un => .un
  | .sc v => .sc v
  | .nil => .nil
  | .sl o n xs => .sl o n xs
  | .rp xs => .rp xs
  | .bx xs => .bx xs
def killL (r : Nat) : List A → List A
  | [] => []
  | x :: xs => kill r x :: killL r xs
end
theorem killL_eq (r : Nat) : ∀ xs : List A, killL r xs = xs.map (kill r)
  | [] => rfl
  | x :: xs => by rw [killL, killL_eq r xs]; rfl
theorem kill_vw (r r' off len : Nat) : kill r (.vw r' off len) = if r' = r then .un else .vw r' off len := rfl
theorem kill_pt (r r' j o : Nat) : kill r (.pt r' j o) = if r' = r then .un else .pt r' j o := rfl
theorem kill_agg (r : Nat) (xs : List A) : kill r (.agg xs) = .agg (xs.map (kill r)) := by rw [kill, killL_eq]
theorem kill_tup (r : Nat) (xs : List A) : kill r (.tup xs) = .tup (xs.map (kill r)) := by rw [kill, killL_eq]
theorem kill_clo (r g : Nat) (xs : List A) : kill r (.clo g xs) = .clo g (xs.map (kill r)) := by rw [kill, killL_eq]
theorem kill_sc (r : Nat) (v : Value) : kill r (.sc v) = .sc v := rfl
theorem kill_nil (r : Nat) : kill r .nil = .nil := rfl
theorem kill_un (r : Nat) : kill r .un = .un := rfl
theorem kill_sl (r : Nat) (o : Bool) (n : Nat) (xs : List A) : kill r (.sl o n xs) = .sl o n xs := rfl
theorem kill_rp (r : Nat) (xs : List A) : kill r (.rp xs) = .rp xs := rfl
theorem kill_bx (r : Nat) (xs : List A) : kill r (.bx xs) = .bx xs := rfl

/-- Plain data are left alone. -/
theorem Rel.kill {w : World} {G : Nat → Prop} {x : A} {v : Value} {F : List Nat} (h : Rel w G x v F) (r : Nat) : Fw.kill r x = x := by
  refine Rel.rec (motive_1 := fun x v F _ => Fw.kill r x = x) (motive_2 := fun xs vs F _ => xs.map (Fw.kill r) = xs)
    ?_ ?_ ?_ ?_ ?_ ?_ ?_ ?_ ?_ ?_ ?_ ?_ ?_ ?_ h
  · intros; exact kill_un r
  · intros; exact kill_sc r _
  · intros; exact kill_nil r
  · intros; exact kill_sl ..
  · intros; exact kill_sl ..
  · intros; exact kill_sl ..
  · intros; exact kill_sl ..
  · intro xs cs F hl ih; rw [kill_agg, ih]
  · intro xs cs F hl ih; rw [kill_tup, ih]
  · intros; exact kill_rp ..
  · intros; exact kill_bx ..
  · intro g caps cs F hl ih; rw [kill_clo, ih]
  · rfl
  · intro x v F xs vs Fs h hl ih ih'; rw [List.map_cons, ih, ih']

/-- Row r stands as it stood, as far as those ask that lead into it. -/
structure RowLe (w w' : World) (rows rows' : List (Option Row)) (gs gs' : Gh) (r : Nat) : Prop where
  le : ∀ row, rowAt rows r = some row → ∃ row', rowAt rows' r = some row' ∧ (gs' r).1 = (gs r).1 ∧ row'.n = row.n ∧ row'.xs.length = row.xs.length ∧
    ∀ b cur e, (gs r).1 = some b → w.heap[b]? = some (.cells cur e (0, 0)) → ∃ cur' e', w'.heap[b]? = some (.cells cur' e' (0, 0)) ∧ cur'.size = cur.size

theorem TRel.step {w w' : World} {G G' : Nat → Prop} {rows rows' : List (Option Row)} {gs gs' : Gh} {x : A} {v : Value} {F : List Nat}
    (h : TRel w G rows gs x v F) (hG : ∀ b, G b → G' b ∧ w'.heap[b]? = w.heap[b]?) (hR : ∀ r, RowLe w w' rows rows' gs gs' r) (hF : ∀ b ∈ F, w'.heap[b]? = w.heap[b]?) :
    TRel w' G' rows' gs' x v F := by
  refine TRel.rec (motive_1 := fun x v F _ => (∀ b ∈ F, w'.heap[b]? = w.heap[b]?) → TRel w' G' rows' gs' x v F)
    (motive_2 := fun xs vs F _ => (∀ b ∈ F, w'.heap[b]? = w.heap[b]?) → TRelL w' G' rows' gs' xs vs F) ?_ ?_ ?_ ?_ ?_ ?_ ?_ ?_ ?_ ?_ h hF
  · intros; exact .un
  · intro x v F h hF; exact .of (h.move_ hG hF)
  · intro r off len k cap b row cur e hr hob hl hh hs hm hc hk _
    obtain ⟨row', hr', hg, hn, hx, hb⟩ := (hR r).le row hr
    obtain ⟨cur', e', hh', hs'⟩ := hb b cur e hob hh
    exact .vw hr' (by rw [hg]; exact hob) (by omega) hh' (by rw [hs', hs, hn]) hm (by omega) (by rw [hn]; exact hk)
  · intro r row hr hob hxs _
    obtain ⟨row', hr', hg, hn, hx, hb⟩ := (hR r).le row hr
    exact .vwn hr' (by rw [hg]; exact hob) (by rw [hxs] at hx; exact List.eq_nil_of_length_eq_zero hx)
  · intro r j o k b row hr hob hk _
    obtain ⟨row', hr', hg, hn, hx, hb⟩ := (hR r).le row hr
    exact .pt hr' (by rw [hg]; exact hob) (by rw [hn]; exact hk)
  · intro xs cs F hl ih hF; exact .agg (ih hF)
  · intro xs cs F hl ih hF; exact .tup (ih hF)
  · intro g caps cs F hl ih hF; exact .clo (ih hF)
  · intro _; exact .nil
  · intro x v F xs vs Fs h hl ih ih' hF
    exact .cons (ih fun b hb => hF b (by simp [hb])) (ih' fun b hb => hF b (by simp [hb]))
theorem TRelL.step {w w' : World} {G G' : Nat → Prop} {rows rows' : List (Option Row)} {gs gs' : Gh}
    (hG : ∀ b, G b → G' b ∧ w'.heap[b]? = w.heap[b]?) (hR : ∀ r, RowLe w w' rows rows' gs gs' r) : ∀ {xs : List A} {vs : List Value} {F : List Nat},
    TRelL w G rows gs xs vs F → (∀ b ∈ F, w'.heap[b]? = w.heap[b]?) → TRelL w' G' rows' gs' xs vs F
  | _, _, _, .nil, _ => .nil
  | _, _, _, .cons h hl, hF => .cons (h.step hG hR fun b hb => hF b (by simp [hb])) (hl.step hG hR fun b hb => hF b (by simp [hb]))

/-- The same where row k may have turned: what leads into it is forgotten. -/
theorem TRel.stepK {w w' : World} {G G' : Nat → Prop} {rows rows' : List (Option Row)} {gs gs' : Gh} {x : A} {v : Value} {F : List Nat} (q : Nat)
    (h : TRel w G rows gs x v F) (hG : ∀ b, G b → G' b ∧ w'.heap[b]? = w.heap[b]?) (hR : ∀ r, r ≠ q → RowLe w w' rows rows' gs gs' r) (hF : ∀ b ∈ F, w'.heap[b]? = w.heap[b]?) :
    TRel w' G' rows' gs' (kill q x) v F := by
  refine TRel.rec (motive_1 := fun x v F _ => (∀ b ∈ F, w'.heap[b]? = w.heap[b]?) → TRel w' G' rows' gs' (kill q x) v F)
    (motive_2 := fun xs vs F _ => (∀ b ∈ F, w'.heap[b]? = w.heap[b]?) → TRelL w' G' rows' gs' (xs.map (kill q)) vs F) ?_ ?_ ?_ ?_ ?_ ?_ ?_ ?_ ?_ ?_ h hF
  · intros; rw [kill_un]; exact .un
  · intro x v F h hF; rw [h.kill q]; exact .of (h.move_ hG hF)
  · intro r off len k cap b row cur e hr hob hl hh hs hm hc hk _
    rw [kill_vw]
    split
    · exact .un
    · rename_i hne
      obtain ⟨row', hr', hg, hn, hx, hb⟩ := (hR r hne).le row hr
      obtain ⟨cur', e', hh', hs'⟩ := hb b cur e hob hh
      exact .vw hr' (by rw [hg]; exact hob) (by omega) hh' (by rw [hs', hs, hn]) hm (by omega) (by rw [hn]; exact hk)
  · intro r row hr hob hxs _
    rw [kill_vw]
    split
    · exact .un
    · rename_i hne
      obtain ⟨row', hr', hg, hn, hx, hb⟩ := (hR r hne).le row hr
      exact .vwn hr' (by rw [hg]; exact hob) (by rw [hxs] at hx; exact List.eq_nil_of_length_eq_zero hx)
  · intro r j o k b row hr hob hk _
    rw [kill_pt]
    split
    · exact .un
    · rename_i hne
      obtain ⟨row', hr', hg, hn, hx, hb⟩ := (hR r hne).le row hr
      exact .pt hr' (by rw [hg]; exact hob) (by rw [hn]; exact hk)
  · intro xs cs F hl ih hF; rw [kill_agg]; exact .agg (ih hF)
  · intro xs cs F hl ih hF; rw [kill_tup]; exact .tup (ih hF)
  · intro g caps cs F hl ih hF; rw [kill_clo]; exact .clo (ih hF)
  · intro _; exact .nil
  · intro x v F xs vs Fs h hl ih ih' hF
    exact .cons (ih fun b hb => hF b (by simp [hb])) (ih' fun b hb => hF b (by simp [hb]))
theorem TRelL.stepK {w w' : World} {G G' : Nat → Prop} {rows rows' : List (Option Row)} {gs gs' : Gh} (q : Nat)
    (hG : ∀ b, G b → G' b ∧ w'.heap[b]? = w.heap[b]?) (hR : ∀ r, r ≠ q → RowLe w w' rows rows' gs gs' r) : ∀ {xs : List A} {vs : List Value} {F : List Nat},
    TRelL w G rows gs xs vs F → (∀ b ∈ F, w'.heap[b]? = w.heap[b]?) → TRelL w' G' rows' gs' (xs.map (kill q)) vs F
  | _, _, _, .nil, _ => .nil
  | _, _, _, .cons h hl, hF => .cons (h.stepK q hG hR fun b hb => hF b (by simp [hb])) (hl.stepK q hG hR fun b hb => hF b (by simp [hb]))

def killT (r : Nat) (t : List (Nat × A)) : List (Nat × A) := t.map fun p => (p.1, kill r p.2)
theorem lk_killT (r : Nat) : ∀ (t : List (Nat × A)) (i : Nat), lk (killT r t) i = kill r (lk t i)
  | [], i => (kill_un r).symm
  | (k, x) :: l, i => by
    have ih := lk_killT r l i
    simp only [killT] at ih
    simp only [killT, List.map_cons, lk]
    split
    · rfl
    · exact ih
/-- In rows: only in those that lead on. -/
def killRow (r : Nat) (row : Row) : Row := if row.lk then { row with xs := row.xs.map (kill r) } else row
def killRows (r : Nat) (rows : List (Option Row)) : List (Option Row) := rows.map (Option.map (killRow r))
theorem kill_cells (r : Nat) (x : A) : (kill r x).cells = x.cells.map (kill r) := by
  cases x <;> simp only [kill_sl, kill_agg, kill_tup, kill_rp, kill_bx, kill_clo, kill_sc, kill_nil, kill_un, kill_vw, kill_pt, A.cells, List.map_cons, List.map_nil]
  · split <;> split <;> simp_all
  · split <;> split <;> simp_all
theorem kill_width (r : Nat) (x : A) : (kill r x).width = x.width := by simp [A.width, kill_cells]
theorem kill_flat (r : Nat) (xs : List A) : flat (xs.map (kill r)) = (flat xs).map (kill r) := by
  induction xs with
  | nil => rfl
  | cons x xs ih => simp only [flat, List.map_cons, List.flatMap_cons, List.map_append] at *; rw [ih, kill_cells]
theorem rowAt_killRows (r : Nat) (rows : List (Option Row)) (i : Nat) : rowAt (killRows r rows) i = (rowAt rows i).map (killRow r) := by
  simp only [rowAt, killRows, List.getElem?_map]
  cases h : rows[i]? with
  | none => rfl
  | some o => cases o <;> rfl
theorem killRow_n (r : Nat) (row : Row) : (killRow r row).n = row.n := by unfold killRow; split <;> rfl
theorem killRow_len (r : Nat) (row : Row) : (killRow r row).xs.length = row.xs.length := by unfold killRow; split <;> simp
theorem killRow_lk (r : Nat) (row : Row) : (killRow r row).lk = row.lk := by unfold killRow; split <;> rfl

/-- A row carried over a step. -/
theorem RowRel.step {w w' : World} {G G' : Nat → Prop} {rows rows' : List (Option Row)} {gs gs' : Gh} {row : Row} {ob : Option Nat} {F : List Nat}
    (h : RowRel w G rows gs row ob F) (hG : ∀ b, G b → G' b ∧ w'.heap[b]? = w.heap[b]?) (hR : ∀ r, RowLe w w' rows rows' gs gs' r) (hF : ∀ c ∈ ob.toList ++ F, w'.heap[c]? = w.heap[c]?) :
    RowRel w' G' rows' gs' row ob F := by
  cases ob with
  | none => exact h
  | some b =>
    obtain ⟨cur, e, cap, h1, h2, h3, h4, h5, h6, h7⟩ := h.ex
    refine ⟨cur, e, cap, by rw [hF b (by simp)]; exact h1, h2, h3, h4, h5, h6, ?_⟩
    have hF' : ∀ c ∈ F, w'.heap[c]? = w.heap[c]? := fun c hc => hF c (by simp [hc])
    unfold CellsRel at *
    split
    · rename_i hl; rw [if_pos hl] at h7; exact h7.step hG hR hF'
    · rename_i hl; rw [if_neg hl] at h7; exact h7.move_ hG hF'
theorem RowRel.stepK {w w' : World} {G G' : Nat → Prop} {rows rows' : List (Option Row)} {gs gs' : Gh} {row : Row} {ob : Option Nat} {F : List Nat} (q : Nat)
    (h : RowRel w G rows gs row ob F) (hG : ∀ b, G b → G' b ∧ w'.heap[b]? = w.heap[b]?) (hR : ∀ r, r ≠ q → RowLe w w' rows rows' gs gs' r) (hF : ∀ c ∈ ob.toList ++ F, w'.heap[c]? = w.heap[c]?) :
    RowRel w' G' rows' gs' (killRow q row) ob F := by
  cases ob with
  | none =>
    obtain ⟨h1, h2⟩ := h
    refine ⟨?_, h2⟩
    unfold killRow
    split <;> simp [h1]
  | some b =>
    obtain ⟨cur, e, cap, h1, h2, h3, h4, h5, h6, h7⟩ := h.ex
    have hF' : ∀ c ∈ F, w'.heap[c]? = w.heap[c]? := fun c hc => hF c (by simp [hc])
    have hb : w'.heap[b]? = w.heap[b]? := hF b (by simp)
    unfold CellsRel at h7
    by_cases hl : row.lk = true
    · have e1 : killRow q row = { row with xs := row.xs.map (kill q) } := by unfold killRow; rw [if_pos hl]
      rw [e1]
      refine ⟨cur, e, cap, by rw [hb]; exact h1, h2, by simpa using h3, h4, ?_, by simpa using h6, ?_⟩
      · intro x hx
        obtain ⟨y, hy, rfl⟩ := List.mem_map.1 hx
        rw [kill_width]; exact h5 y hy
      · unfold CellsRel
        rw [if_pos hl] at h7
        show if row.lk = true then _ else _
        rw [if_pos hl, kill_flat]
        simpa using h7.stepK q hG hR hF'
    · have e1 : killRow q row = row := by unfold killRow; rw [if_neg hl]
      rw [e1]
      refine ⟨cur, e, cap, by rw [hb]; exact h1, h2, h3, h4, h5, h6, ?_⟩
      unfold CellsRel
      rw [if_neg hl] at h7 ⊢
      exact h7.move_ hG hF'
end Go.Fw

/- Operations that leave memory alone: what they do to an abstract state. Plain theorems, no condition. -/
set_option linter.unusedVariables false
set_option linter.unusedSimpArgs false
namespace Go.Fw

def szT (P : Program) (t : TypeId) : Option Nat := (P.info? t).map (·.size)
def zeroT (P : Program) (t : TypeId) : Option Value := (P.info? t).bind (·.zero)
def bytesT (P : Program) (t : TypeId) : Nat := ((P.info? t).map (·.bytes)).getD 0
def elemT (P : Program) (t : TypeId) : Option TypeId := match P.underlying t with | some (.slice e) => some e | _ => none
def aggD : TypeDesc → Bool
  | .struct _ => true
  | .array _ _ => true
  | _ => false
def aggT (P : Program) (t : TypeId) : Option Bool := (P.underlying t).map aggD
/-- Field i of a struct type: where it begins, its cells, is it a struct. -/
def fieldT (P : Program) (t : TypeId) (i : Nat) : Option (Nat × Nat × Bool) :=
  match P.underlying t with
  | some (.struct fs) => match fs[i]? with
    | some f => match szT P f.type, aggT P f.type with
      | some s, some g => some (f.offset, s, g)
      | _, _ => none
    | none => none
  | _ => none
def kindT (P : Program) (t : TypeId) : Option IntKind := match P.underlying t with | some (.int k) => some k | _ => none
def isStrT (P : Program) (t : TypeId) : Bool := match P.underlying t with | some .string => true | _ => false
def isBoolT (P : Program) (t : TypeId) : Bool := match P.underlying t with | some .bool => true | _ => false

/-- A string by its bytes, and its bytes. -/
def mkS (l : List UInt8) : ByteArray := ⟨l.toArray⟩
def bs (s : ByteArray) : List UInt8 := s.data.toList
theorem bs_mkS (l : List UInt8) : bs (mkS l) = l := rfl
theorem mkS_bs (s : ByteArray) : mkS (bs s) = s := rfl
theorem bs_lit (a : Array UInt8) : bs ⟨a⟩ = a.toList := rfl
theorem size_mkS (l : List UInt8) : (mkS l).size = l.length := by simp [mkS, ByteArray.size]
theorem bs_length (s : ByteArray) : (bs s).length = s.size := Array.length_toList
theorem toList_bs (s : ByteArray) : s.toList = bs s := ByteArray.toList_eq s
def cellA : Value → A
  | .slice none 0 0 => .nil
  | .string s => .sc (.string (mkS (bs s)))
  | v => .sc v
def constA : Value → A
  | .agg cs => .agg (cs.toList.map cellA)
  | v => cellA v
def okV : Value → Bool
  | .agg cs => cs.toList.all cellV
  | .tuple _ => false
  | _ => true
def ev (S : State) : Operand → A
  | .tmp i => if i < S.N then lk S.t i else .un
  | .const v => if okV v then constA v else .un
  | .func f => if f < 1000000 then .clo f [] else .un
  | .global _ => .un
def State.put (S : State) (d : Option Nat) (x : A) : State :=
  match d with
  | none => S
  | some d => if d < S.N then { S with t := (d, x) :: S.t } else S

theorem rel_cellA {w : World} {G : Nat → Prop} {v : Value} (h : cellV v = true) : Rel w G (cellA v) v [] := by
  unfold cellA
  split
  · exact .nil
  · exact .sc h
  · exact .sc h
theorem relL_cells {w : World} {G : Nat → Prop} : ∀ (cs : List Value), cs.all cellV = true → RelL w G (cs.map cellA) cs []
  | [], _ => .nil
  | v :: cs, h => by
    simp only [List.all_cons, Bool.and_eq_true] at h
    exact .cons (F := []) (rel_cellA h.1) (relL_cells cs h.2)
theorem rel_constA {w : World} {G : Nat → Prop} {v : Value} (h : okV v = true) : Rel w G (constA v) v [] := by
  unfold constA
  split
  · rename_i cs
    have := relL_cells (w := w) (G := G) cs.toList h
    simpa using Rel.agg this
  · rename_i hne
    refine rel_cellA ?_
    cases v <;> simp_all [okV, cellV, Value.oneCell']

section
variable {P : Program} {E : Env} {G : Nat → Prop} {gs : Gh} {S : State} {a : Act} {w : World}

theorem Inv.vat_tmp {tmps : Array Value} (h : Inv E G gs S tmps w) {i : Nat} (hi : i < S.N) : vat E tmps i = tmps.getD i undef := by
  unfold vat
  rw [if_pos (by rw [h.sz]; exact hi)]
/-- The operands that mean something. -/
def okO : Operand → Bool := fun _ => true
theorem ev_rel (h : Inv E G gs S a.tmps w) (x : Operand) (hx : okO x = true) : TRel w G S.rows gs (ev S x) (a.eval x) [] := by
  cases x with
  | tmp i =>
    show TRel w G S.rows gs (if i < S.N then lk S.t i else .un) (a.tmps.getD i undef) []
    split
    · rename_i hi
      have := h.tmp i
      rwa [h.vat_tmp hi] at this
    · exact .un
  | const v =>
    show TRel w G S.rows gs (if okV v then constA v else .un) v []
    split
    · rename_i h; exact .of (rel_constA h)
    · exact .un
  | global g => exact .un
  | func f =>
    show TRel w G S.rows gs (if f < 1000000 then .clo f [] else .un) (.func (.func f) #[] #[]) []
    split
    · rename_i h
      have := TRel.of (rows := S.rows) (gs := gs) (Rel.clo (w := w) (G := G) (g := f) (caps := []) (cs := []) .nil)
      unfold mkFn at this
      rw [if_pos h] at this
      exact this
    · exact .un

theorem put_size (d : Option Nat) (v : Value) : (a.put d v).tmps.size = a.tmps.size := by cases d <;> simp [Act.put]
theorem put_defers (d : Option Nat) (v : Value) : (a.put d v).defers = a.defers := by cases d <;> rfl
theorem Inv.put (h : Inv E G gs S a.tmps w) {x : A} {v : Value} (hx : TRel w G S.rows gs x v []) (d : Option Nat) : Inv E G gs (S.put d x) (a.put d v).tmps w := by
  cases d with
  | none => exact h
  | some d =>
    unfold State.put
    dsimp only
    split
    · rename_i hd
      refine ⟨h.keep, h.os, h.tape, h.output, h.size, by rw [put_size]; exact h.sz, h.gsub, h.gnew, h.glt, h.row, h.nod, h.own, h.dis, fun i => ?_⟩
      show TRel w G S.rows gs (lk ((d, x) :: S.t) i) _ []
      simp only [lk]
      have hs : d < a.tmps.size := by rw [h.sz]; exact hd
      split
      · rename_i hi
        subst hi
        have : vat E (a.put (some d) v).tmps d = v := by simp [vat, Act.put, Array.getD_eq_getD_getElem?, hs]
        rw [this]; exact hx
      · rename_i hi
        have : vat E (a.put (some d) v).tmps i = vat E a.tmps i := by simp [vat, Act.put, Array.getD_eq_getD_getElem?, Array.getElem?_setIfInBounds, hi]
        rw [this]; exact h.tmp i
    · rename_i hd
      have : (a.put (some d) v).tmps = a.tmps := by
        have hs : ¬ d < a.tmps.size := by rw [h.sz]; exact hd
        simp only [Act.put]
        exact Array.setIfInBounds_eq_of_size_le (by omega)
      rw [this]; exact h

def opOK (P : Program) (o : Oper) (S : State) (K : State → Prop) : Prop :=
  ∀ E a w (next : Act → World → Prop) (Q : Exit → Act → World → Prop), SInv E S a w → (∀ S' a' w', K S' → SInv E S' a' w' → next a' w') → o.wp P a w next Q

/-- The operation yields a value told by x, the same one however memory has grown. -/
def VOK (P : Program) (o : Oper) (S : State) (x : A) : Prop :=
  ∀ (E : Env) (G : Nat → Prop) (gs : Gh) (a : Act) (w : World), Inv E G gs S a.tmps w →
    ∃ v, (∀ w', Go.RowKit.Below w.heap.size w w' → (execOp a.eval o).run P w' = .ok (.value v) w') ∧ TRel w G S.rows gs x v []
theorem keep_at {w' : World} {b : Nat} {ob : Obj} (hb : Go.RowKit.Below w.heap.size w w') (h : w.heap[b]? = some ob) : w'.heap[b]? = some ob := by
  rw [hb.block b (Array.getElem?_eq_some_iff.1 h).1]; exact h
theorem opOK_value {o : Oper} {K : State → Prop} (x : A) (hK : K (S.put o.dst x))
    (h : ∀ (E : Env) (G : Nat → Prop) (gs : Gh) (a : Act) (w : World), Inv E G gs S a.tmps w → ∃ v, (execOp a.eval o).run P w = .ok (.value v) w ∧ TRel w G S.rows gs x v []) : opOK P o S K := by
  intro E a w next Q hs hn
  obtain ⟨hd, G, gs, hi⟩ := hs
  obtain ⟨v, hr, hx⟩ := h E G gs a w hi
  unfold Oper.wp
  rw [hr]
  exact hn _ _ _ hK ⟨by rw [put_defers]; exact hd, G, gs, hi.put hx o.dst⟩

theorem opOK_of {o : Oper} {K : State → Prop} {x : A} (h : VOK P o S x) (hK : K (S.put o.dst x)) : opOK P o S K :=
  opOK_value x hK fun E G gs a w hi => by
    obtain ⟨v, h1, h2⟩ := h E G gs a w hi
    exact ⟨v, h1 w (Go.RowKit.Below.refl _ _), h2⟩

def pickA (b : Bool) : A → A → A
  | .sc (.bool p), .sc (.bool q) => .sc (.bool (if b then p else q))
  | x, y => if b then x else y
theorem pick_rel {rows : List (Option Row)} {b : Bool} {x y : A} {u v : Value} (hx : b = true → TRel w G rows gs x u []) (hy : b = false → TRel w G rows gs y v []) :
    TRel w G rows gs (pickA b x y) (if b then u else v) [] := by
  cases b with
  | true =>
    have := hx rfl
    unfold pickA
    split <;> simpa using this
  | false =>
    have := hy rfl
    unfold pickA
    split <;> simpa using this
theorem sc_inv {rows : List (Option Row)} {v u : Value} {F : List Nat} (h : TRel w G rows gs (.sc v) u F) : u = v ∧ cellV v = true := by
  cases h with
  | of h => cases h with | sc h => exact ⟨rfl, h⟩
theorem agg_inv {rows : List (Option Row)} {xs : List A} {u : Value} {F : List Nat} (h : TRel w G rows gs (.agg xs) u F) : ∃ cs, u = .agg cs ∧ TRelL w G rows gs xs cs.toList F := by
  cases h with
  | of h => cases h with | agg h => exact ⟨_, rfl, by simpa using TRelL.of h⟩
  | agg h => exact ⟨_, rfl, by simpa using h⟩
theorem tup_inv {rows : List (Option Row)} {xs : List A} {u : Value} {F : List Nat} (h : TRel w G rows gs (.tup xs) u F) : ∃ cs, u = .tuple cs ∧ TRelL w G rows gs xs cs.toList F := by
  cases h with
  | of h => cases h with | tup h => exact ⟨_, rfl, by simpa using TRelL.of h⟩
  | tup h => exact ⟨_, rfl, by simpa using h⟩
theorem TRelL.get {rows : List (Option Row)} : ∀ {xs : List A} {vs : List Value}, TRelL w G rows gs xs vs [] → ∀ (i : Nat) (x : A), xs[i]? = some x → ∃ v, vs[i]? = some v ∧ TRel w G rows gs x v []
  | _, _, h, i, x, hx => by
    generalize hF : ([] : List Nat) = F at h
    cases h with
    | nil => simp at hx
    | cons h hl =>
      rename_i y v F xs vs Fs
      have hF' : F = [] ∧ Fs = [] := by simpa using hF.symm
      obtain ⟨rfl, rfl⟩ := hF'
      cases i with
      | zero => simp at hx; subst hx; exact ⟨_, rfl, h⟩
      | succ i => simpa using hl.get i x (by simpa using hx)
theorem TRelL.take0 {rows : List (Option Row)} : ∀ {xs : List A} {vs : List Value} (n : Nat), TRelL w G rows gs xs vs [] → TRelL w G rows gs (xs.take n) (vs.take n) []
  | xs, vs, 0, h => by simpa using TRelL.nil
  | xs, vs, n + 1, h => by
    generalize hF : ([] : List Nat) = F at h
    cases h with
    | nil => rw [← hF]; simpa using TRelL.nil
    | cons h hl =>
      rename_i y v F xs vs Fs
      have hF' : F = [] ∧ Fs = [] := by simpa using hF.symm
      obtain ⟨rfl, rfl⟩ := hF'
      simpa using TRelL.cons h (hl.take0 n)
theorem TRelL.drop0 {rows : List (Option Row)} : ∀ {xs : List A} {vs : List Value} (n : Nat), TRelL w G rows gs xs vs [] → TRelL w G rows gs (xs.drop n) (vs.drop n) []
  | xs, vs, 0, h => by simpa using h
  | xs, vs, n + 1, h => by
    generalize hF : ([] : List Nat) = F at h
    cases h with
    | nil => rw [← hF]; simpa using TRelL.nil
    | cons h hl =>
      rename_i y v F xs vs Fs
      have hF' : F = [] ∧ Fs = [] := by simpa using hF.symm
      obtain ⟨rfl, rfl⟩ := hF'
      simpa using hl.drop0 n
theorem TRelL.append0 {rows : List (Option Row)} {ys : List A} {us : List Value} :
    ∀ {xs : List A} {vs : List Value}, TRelL w G rows gs xs vs [] → TRelL w G rows gs ys us [] → TRelL w G rows gs (xs ++ ys) (vs ++ us) []
  | xs, vs, h, h' => by
    generalize hF : ([] : List Nat) = F at h
    cases h with
    | nil => rw [← hF]; simpa using h'
    | cons h hl =>
      rename_i y v F xs vs Fs
      have hF' : F = [] ∧ Fs = [] := by simpa using hF.symm
      obtain ⟨rfl, rfl⟩ := hF'
      simpa using TRelL.cons h (hl.append0 h')

theorem VOK_move {o : Oper} {x : Operand} (ho : o.op = .move x ∨ o.op = .assign x) (hx : okO x = true) : VOK P o S (ev S x) :=
  fun E G gs a w hi => ⟨a.eval x, fun w' hw' => by rcases ho with h | h <;> simp [execOp, h], ev_rel hi x hx⟩
theorem VOK_pick {o : Oper} {c x y : Operand} {b : Bool} (ho : o.op = .pick c x y) (hx : okO x = true) (hy : okO y = true) (hc : ev S c = .sc (.bool b)) (hco : okO c = true)
    : VOK P o S (pickA b (ev S x) (ev S y)) := by
  refine fun E G gs a w hi => ⟨if b then a.eval x else a.eval y, ?_, ?_⟩
  · have hb := ev_rel hi c hco
    rw [hc] at hb
    have hv := (sc_inv hb).1
    intro w' hw'
    simp [execOp, ho, hv, asBool]
  · exact pick_rel (fun _ => ev_rel hi x hx) (fun _ => ev_rel hi y hy)

def unS : UnOp → Value → Option Value
  | .not, .bool b => some (.bool !b)
  | .neg, .int k n => some (.int k (k.wrap (0 - n)))
  | _, _ => none
theorem VOK_unOp {o : Oper} {op : UnOp} {t : TypeId} {x : Operand} {u v : Value} (ho : o.op = .unOp op t x) (hx : okO x = true) (he : ev S x = .sc u) (hu : unS op u = some v)
    : VOK P o S (.sc v) := by
  refine fun E G gs a w hi => ⟨v, ?_, ?_⟩
  · have hb := ev_rel hi x hx
    rw [he] at hb
    have hv := (sc_inv hb).1
    intro w' hw'
    cases op <;> cases u <;> simp [unS] at hu <;> subst hu <;> simp [execOp, ho, hv, Op.unary, Op.intArith]
  · cases op <;> cases u <;> simp [unS] at hu <;> subst hu <;> exact .of (.sc rfl)

/-- Operators on scalars: what must hold, and what comes out. -/
def binS (P : Program) (op : BinOp) (t : TypeId) : Value → Value → Prop × Value
  | .int k x, .int k' y =>
    match op with
    | .add => (k = k', .int k (k.wrap (x + y)))
    | .sub => (k = k', .int k (k.wrap (x - y)))
    | .mul => (k = k', .int k (k.wrap (x * y)))
    | .quo => (k = k' ∧ y ≠ 0, .int k (k.wrap (x.tdiv y)))
    | .rem => (k = k' ∧ y ≠ 0, .int k (x.tmod y))
    | .and => (k = k', .int k (bits .and k x y))
    | .or => (k = k', .int k (bits .or k x y))
    | .xor => (k = k', .int k (bits .xor k x y))
    | .andNot => (k = k', .int k (bits .andNot k x y))
    | .shl => (0 ≤ y ∧ y ≤ k.bits, .int k (k.wrap (x * 2 ^ y.toNat)))
    | .shr => (0 ≤ y ∧ y ≤ k.bits, .int k (x / 2 ^ y.toNat))
    | .eql => (k = k', .bool (x == y))
    | .neq => (k = k', .bool (x != y))
    | .lss => (k = k', .bool (decide (x < y)))
    | .leq => (k = k', .bool (decide (x ≤ y)))
    | .gtr => (k = k', .bool (decide (x > y)))
    | .geq => (k = k', .bool (decide (x ≥ y)))
  | .string x, .string y =>
    match op with
    | .add => ((((bs x).length + (bs y).length : Nat) : Int) ≤ 9223372036854775807, .string (mkS (bs x ++ bs y)))
    | .eql => (True, .bool (bs x == bs y))
    | .neq => (True, .bool (bs x != bs y))
    | .lss => (True, .bool (Op.bytesLess (bs x) (bs y)))
    | .leq => (True, .bool (Op.bytesLess (bs x) (bs y) || bs x == bs y))
    | .gtr => (True, .bool !(Op.bytesLess (bs x) (bs y) || bs x == bs y))
    | .geq => (True, .bool !(Op.bytesLess (bs x) (bs y)))
    | _ => (False, .bool false)
  | .bool x, .bool y =>
    match op with
    | .eql => (isBoolT P t = true, .bool (x == y))
    | .neq => (isBoolT P t = true, .bool (x != y))
    | _ => (False, .bool false)
  | _, _ => (False, .bool false)
theorem binS_run {op : BinOp} {t : TypeId} {u v : Value} (h : (binS P op t u v).1) (x y : Operand) (w : World) :
    (do eqGuard op t x y u v; binOp op t u v : Sem Value).run P w = .ok (binS P op t u v).2 w ∧ cellV (binS P op t u v).2 = true := by
  cases u <;> cases v <;> try exact h.elim
  case int.int k a k' b =>
    cases op <;> simp only [binS] at h <;> first | (obtain ⟨rfl, h0⟩ := h) | (obtain rfl := h) | skip
    all_goals try (simp [binS, binOp, eqGuard, Op.intArith, Op.intDiv, Op.intBits, Op.intCmp, bits, cellV, Value.oneCell', *]; done)
    · refine ⟨?_, rfl⟩
      simp [binS, eqGuard, binOp_shl, shift_shl _ _ _ _ h.1 h.2]
    · refine ⟨?_, rfl⟩
      simp [binS, eqGuard, binOp_shr, shift_shr _ _ _ _ h.1 h.2]
  case string.string a b =>
    cases op <;> try exact h.elim
    all_goals try (simp [binS, binOp, eqGuard, Op.stringOp, toList_bs, cellV, Value.oneCell', bne]; done)
    simp only [binS, bs_length] at h
    have h' : ¬ (9223372036854775807 < ((a.size : Int) + (b.size : Int))) := by omega
    have e : mkS (bs a ++ bs b) = a ++ b := by
      apply ByteArray.ext
      simp [mkS, bs]
    simp [binS, binOp, eqGuard, Op.stringOp, h', e, cellV, Value.oneCell']
  case bool.bool a b =>
    have hb : P.underlying t = some .bool := by
      cases op <;> try exact h.elim
      all_goals
        simp only [binS, isBoolT] at h
        split at h
        · assumption
        · simp at h
    have he : (Op.equal t (.bool a) (.bool b)).run P w = .ok (a == b) w := by
      have key : ∀ d, (Op.equalIn (d + 1) t (.bool a) (.bool b)).run P w = .ok (a == b) w := fun d => by
        simp only [Op.equalIn, Sem.run_bind, run_underlying hb, Result.andThen_ok]
        simp
      exact key 9999
    cases op <;> try exact h.elim
    all_goals refine ⟨?_, rfl⟩
    · show (do eqGuard .eql t x y (.bool a) (.bool b); (do pure (.bool (← Op.equal t (.bool a) (.bool b))) : Sem Value) : Sem Value).run P w = _
      simp only [eqGuard_at_bool, Sem.run_bind, Sem.run_pure, Result.andThen_ok, he]
      rfl
    · show (do eqGuard .neq t x y (.bool a) (.bool b); (do pure (.bool (!(← Op.equal t (.bool a) (.bool b)))) : Sem Value) : Sem Value).run P w = _
      simp only [eqGuard_at_bool, Sem.run_bind, Sem.run_pure, Result.andThen_ok, he]
      rfl
theorem VOK_binOp {o : Oper} {op : BinOp} {t t' : TypeId} {x y : Operand} {u v : Value} (ho : o.op = .binOp op t x y t') (hx : okO x = true) (hy : okO y = true)
    (h1 : ev S x = .sc u) (h2 : ev S y = .sc v) (h : (binS P op t u v).1) : VOK P o S (.sc (binS P op t u v).2) := by
  refine fun E G gs a w hi => ?_
  have e1 := ev_rel hi x hx
  have e2 := ev_rel hi y hy
  rw [h1] at e1
  rw [h2] at e2
  have v1 := (sc_inv e1).1
  have v2 := (sc_inv e2).1
  refine ⟨_, fun w' hw' => ?_, .of (.sc (binS_run h x y w).2)⟩
  have hr := (binS_run h x y w').1
  simp only [execOp, ho, v1, v2, Sem.run_bind] at hr ⊢
  rw [hr]
  rfl
end
end Go.Fw

/- Operations that read memory or compute with structs. Plain theorems, no condition. -/
set_option linter.unusedVariables false
set_option linter.unusedSimpArgs false
namespace Go.Fw

theorem flat_nil : flat [] = [] := rfl
theorem flat_cons (x : A) (xs : List A) : flat (x :: xs) = x.cells ++ flat xs := by simp [flat]
theorem flat_append (xs ys : List A) : flat (xs ++ ys) = flat xs ++ flat ys := by simp [flat]
theorem flat_length {n : Nat} : ∀ {xs : List A}, (∀ x ∈ xs, x.width = n) → (flat xs).length = xs.length * n
  | [], _ => by simp [flat]
  | x :: xs, h => by
    rw [flat_cons, List.length_append, flat_length (xs := xs) fun y hy => h y (by simp [hy])]
    have := h x (by simp)
    unfold A.width at this
    rw [this, List.length_cons, Nat.add_mul]
    omega
theorem flat_drop {n : Nat} : ∀ {xs : List A} (j : Nat), (∀ x ∈ xs, x.width = n) → (flat xs).drop (j * n) = flat (xs.drop j)
  | xs, 0, _ => by simp
  | [], j + 1, _ => by simp [flat]
  | x :: xs, j + 1, h => by
    have hx := h x (by simp)
    unfold A.width at hx
    rw [flat_cons, List.drop_succ_cons, show (j + 1) * n = n + j * n by rw [Nat.add_mul]; omega, ← List.drop_drop, ← hx, List.drop_left, hx]
    exact flat_drop (xs := xs) j fun y hy => h y (by simp [hy])
theorem flat_take {n : Nat} : ∀ {xs : List A} (j : Nat), (∀ x ∈ xs, x.width = n) → (flat xs).take (j * n) = flat (xs.take j)
  | xs, 0, _ => by simp [flat]
  | [], j + 1, _ => by simp [flat]
  | x :: xs, j + 1, h => by
    have hx := h x (by simp)
    unfold A.width at hx
    rw [flat_cons, List.take_succ_cons, flat_cons, show (j + 1) * n = x.cells.length + j * n by rw [Nat.add_mul, hx]; omega, List.take_length_add_append]
    rw [flat_take (xs := xs) j fun y hy => h y (by simp [hy])]
/-- The cells of one element. -/
theorem flat_seg {n : Nat} {xs : List A} (h : ∀ x ∈ xs, x.width = n) {j : Nat} {x : A} (hx : xs[j]? = some x) (o s : Nat) (hs : o + s ≤ n) :
    ((flat xs).drop (j * n + o)).take s = (x.cells.drop o).take s := by
  have hj : j < xs.length := by
    rcases Nat.lt_or_ge j xs.length with h | h
    · exact h
    · rw [List.getElem?_eq_none h] at hx; simp at hx
  have hd : xs.drop j = x :: xs.drop (j + 1) := by
    rw [List.drop_eq_getElem_cons hj]
    rw [List.getElem?_eq_getElem hj] at hx
    simp only [Option.some.injEq] at hx
    rw [hx]
  have hw := h x (List.mem_of_getElem? hx)
  unfold A.width at hw
  rw [← List.drop_drop, flat_drop j h, hd, flat_cons, List.drop_append_of_le_length (by omega), List.take_append_of_le_length (by simp; omega)]

/- Nothing in it is held alone. -/
mutual
def noOwn : A → Bool
  | .sl o _ _ => !o
  | .bx _ => false
  | .agg xs => noOwnL xs
  | .tup xs => noOwnL xs
  | .clo _ xs => noOwnL xs
  | .un => true
  | .sc _ => true
  | .nil => true
  | .vw _ _ _ => true
  | .pt _ _ _ => true
  | .rp _ => true
def noOwnL : List A → Bool
  | [] => true
  | x :: xs => noOwn x && noOwnL xs
end
theorem noOwnL_eq : ∀ xs : List A, noOwnL xs = xs.all noOwn
  | [] => rfl
  | x :: xs => by rw [noOwnL, noOwnL_eq xs]; rfl
theorem noOwn_sl (o : Bool) (n : Nat) (xs : List A) : noOwn (.sl o n xs) = !o := rfl
theorem noOwn_bx (xs : List A) : noOwn (.bx xs) = false := rfl
theorem noOwn_agg (xs : List A) : noOwn (.agg xs) = xs.all noOwn := by rw [noOwn, noOwnL_eq]
theorem noOwn_tup (xs : List A) : noOwn (.tup xs) = xs.all noOwn := by rw [noOwn, noOwnL_eq]
theorem noOwn_clo (g : Nat) (xs : List A) : noOwn (.clo g xs) = xs.all noOwn := by rw [noOwn, noOwnL_eq]
theorem noOwn_sc (v : Value) : noOwn (.sc v) = true := rfl
theorem noOwn_nil : noOwn .nil = true := rfl
theorem noOwn_un : noOwn .un = true := rfl
theorem noOwn_rp (xs : List A) : noOwn (.rp xs) = true := rfl
theorem noOwn_vw (r i l : Nat) : noOwn (.vw r i l) = true := rfl
theorem noOwn_pt (r i l : Nat) : noOwn (.pt r i l) = true := rfl
theorem Rel.noOwn {w : World} {G : Nat → Prop} {x : A} {v : Value} {F : List Nat} (h : Rel w G x v F) (hf : Fw.noOwn x = true) : F = [] := by
  refine Rel.rec (motive_1 := fun x v F _ => Fw.noOwn x = true → F = []) (motive_2 := fun xs vs F _ => xs.all Fw.noOwn = true → F = [])
    ?_ ?_ ?_ ?_ ?_ ?_ ?_ ?_ ?_ ?_ ?_ ?_ ?_ ?_ h hf
  · intros; rfl
  · intros; rfl
  · intros; rfl
  · intros; rfl
  · intros; rfl
  · intros; rfl
  · intro n xs b len cap cur e cs F hh hw hlen hc hl hcap hm hs hv ih hf; simp [noOwn_sl] at hf
  · intro xs cs F hl ih hf; exact ih (by rwa [noOwn_agg] at hf)
  · intro xs cs F hl ih hf; exact ih (by rwa [noOwn_tup] at hf)
  · intros; rfl
  · intro xs b cur e F hh hl hv ih hf; simp [noOwn_bx] at hf
  · intro g caps cs F hl ih hf; exact ih (by rwa [noOwn_clo] at hf)
  · intros; rfl
  · intro x v F xs vs Fs h hl ih ih' hf
    simp only [List.all_cons, Bool.and_eq_true] at hf
    rw [ih hf.1, ih' hf.2]; rfl
theorem RelL.noOwn {w : World} {G : Nat → Prop} : ∀ {xs : List A} {vs : List Value} {F : List Nat}, RelL w G xs vs F → xs.all Fw.noOwn = true → F = []
  | _, _, _, .nil, _ => rfl
  | _, _, _, .cons h hl, hf => by
    simp only [List.all_cons, Bool.and_eq_true] at hf
    rw [h.noOwn hf.1, hl.noOwn hf.2]; rfl
theorem TRel.noOwn {w : World} {G : Nat → Prop} {rows : List (Option Row)} {gs : Gh} {x : A} {v : Value} {F : List Nat} (h : TRel w G rows gs x v F) (hf : Fw.noOwn x = true) : F = [] := by
  refine TRel.rec (motive_1 := fun x v F _ => Fw.noOwn x = true → F = []) (motive_2 := fun xs vs F _ => xs.all Fw.noOwn = true → F = []) ?_ ?_ ?_ ?_ ?_ ?_ ?_ ?_ ?_ ?_ h hf
  · intros; rfl
  · intro x v F h hf; exact h.noOwn hf
  · intros; rfl
  · intros; rfl
  · intros; rfl
  · intro xs cs F hl ih hf; exact ih (by rwa [noOwn_agg] at hf)
  · intro xs cs F hl ih hf; exact ih (by rwa [noOwn_tup] at hf)
  · intro g caps cs F hl ih hf; exact ih (by rwa [noOwn_clo] at hf)
  · intros; rfl
  · intro x v F xs vs Fs h hl ih ih' hf
    simp only [List.all_cons, Bool.and_eq_true] at hf
    rw [ih hf.1, ih' hf.2]; rfl
theorem TRelL.noOwn {w : World} {G : Nat → Prop} {rows : List (Option Row)} {gs : Gh} : ∀ {xs : List A} {vs : List Value} {F : List Nat}, TRelL w G rows gs xs vs F → xs.all Fw.noOwn = true → F = []
  | _, _, _, .nil, _ => rfl
  | _, _, _, .cons h hl, hf => by
    simp only [List.all_cons, Bool.and_eq_true] at hf
    rw [h.noOwn hf.1, hl.noOwn hf.2]; rfl
theorem TRelL.split {w : World} {G : Nat → Prop} {rows : List (Option Row)} {gs : Gh} : ∀ {xs ys : List A} {vs : List Value} {F : List Nat}, TRelL w G rows gs (xs ++ ys) vs F →
    ∃ F1 F2, F = F1 ++ F2 ∧ TRelL w G rows gs xs (vs.take xs.length) F1 ∧ TRelL w G rows gs ys (vs.drop xs.length) F2
  | [], ys, vs, F, h => ⟨[], F, rfl, by simpa using TRelL.nil, by simpa using h⟩
  | x :: xs, ys, _, _, .cons (F := F) (Fs := Fs) h hl => by
    obtain ⟨F1, F2, rfl, h1, h2⟩ := hl.split (xs := xs)
    exact ⟨F ++ F1, F2, by simp, by simpa using TRelL.cons h h1, by simpa using h2⟩
theorem TRelL.take_ {w : World} {G : Nat → Prop} {rows : List (Option Row)} {gs : Gh} {xs : List A} {vs : List Value} {F : List Nat} (h : TRelL w G rows gs xs vs F) (n : Nat) :
    ∃ F1 F2, F = F1 ++ F2 ∧ TRelL w G rows gs (xs.take n) (vs.take n) F1 ∧ TRelL w G rows gs (xs.drop n) (vs.drop n) F2 := by
  have hl := h.length
  rw [← List.take_append_drop n xs] at h
  obtain ⟨F1, F2, e, h1, h2⟩ := h.split
  by_cases hn : n ≤ xs.length
  · rw [List.length_take, Nat.min_eq_left hn] at h1 h2
    exact ⟨F1, F2, e, h1, h2⟩
  · have hn' : xs.length ≤ n := by omega
    rw [List.take_of_length_le hn', List.drop_eq_nil_of_le hn', List.take_of_length_le (by omega), List.drop_eq_nil_of_le (by omega)]
    rw [List.take_of_length_le hn', List.take_of_length_le (by omega)] at h1
    rw [List.drop_eq_nil_of_le hn', List.take_of_length_le hn', List.drop_eq_nil_of_le (by omega)] at h2
    exact ⟨F1, F2, e, h1, h2⟩
theorem TRelL.append {w : World} {G : Nat → Prop} {rows : List (Option Row)} {gs : Gh} {ys : List A} {us : List Value} {F' : List Nat} :
    ∀ {xs : List A} {vs : List Value} {F : List Nat}, TRelL w G rows gs xs vs F → TRelL w G rows gs ys us F' → TRelL w G rows gs (xs ++ ys) (vs ++ us) (F ++ F')
  | _, _, _, .nil, h' => by simpa using h'
  | _, _, _, .cons (F := F) (Fs := Fs) h hl, h' => by
    have := TRelL.cons h (hl.append h')
    simpa [List.append_assoc] using this

section
variable {P : Program} {E : Env} {G : Nat → Prop} {gs : Gh} {S : State} {a : Act} {w : World}

theorem run_isAgg {t : TypeId} {b : Bool} (h : aggT P t = some b) (w : World) : (isAgg t).run P w = .ok b w := by
  unfold aggT at h
  cases hu : P.underlying t with
  | none => simp [hu] at h
  | some d =>
    simp only [hu, Option.map_some, Option.some.injEq] at h
    unfold isAgg
    rw [Sem.run_bind, run_underlying hu w]
    subst h
    cases d <;> rfl
theorem run_sizeOf {t : TypeId} {s : Nat} (h : szT P t = some s) (w : World) : (sizeOf t).run P w = .ok s w := by
  unfold szT at h
  cases hu : P.info? t with
  | none => simp [hu] at h
  | some i =>
    simp only [hu, Option.map_some, Option.some.injEq] at h
    simp [sizeOf, typeInfo, hu, h]
theorem run_zero {t : TypeId} {z : Value} (h : zeroT P t = some z) (w : World) : (zeroValue t).run P w = .ok z w := by
  unfold zeroT at h
  cases hu : P.info? t with
  | none => simp [hu] at h
  | some i =>
    simp only [hu, Option.bind_some] at h
    simp [zeroValue, typeInfo, hu, h]
theorem add_none (b k n : Nat) : (⟨b, k, none⟩ : Addr).add n = ⟨b, k + n, none⟩ := by unfold Addr.add; split <;> simp_all
theorem cell_at {b k : Nat} {cur : Array Value} {e : TypeId} {fr : Nat × Nat} (h : w.heap[b]? = some (.cells cur e fr)) : w.cell? ⟨b, k, none⟩ = cur[k]? := by
  simp [World.cell?, h]
theorem run_loadVar_cell {t : TypeId} (ha : aggT P t = some false) {b k : Nat} {cur : Array Value} {e : TypeId} {fr : Nat × Nat} (h : w.heap[b]? = some (.cells cur e fr)) {v : Value} (hv : cur[k]? = some v) :
    (loadVar t ⟨b, k, none⟩).run P w = .ok v w := by
  simp [loadVar, run_isAgg ha, cell_at h, hv]
theorem run_loadVar_agg {t : TypeId} (ha : aggT P t = some true) {s : Nat} (hs : szT P t = some s) {b k : Nat} {cur : Array Value} {e : TypeId} {fr : Nat × Nat} (h : w.heap[b]? = some (.cells cur e fr)) {cs : List Value}
    (hc : (cur.toList.drop k).take s = cs) (hl : cs.length = s) : (loadVar t ⟨b, k, none⟩).run P w = .ok (.agg cs.toArray) w := by
  have hr := run_loadCells_list (P := P) w ⟨b, k, none⟩ cs (fun j v hv => by
    rw [add_none, cell_at h]
    rw [← hc] at hv
    have hj : j < s := by
      rcases Nat.lt_or_ge j s with h | h
      · exact h
      · rw [List.getElem?_take_eq_none h] at hv; simp at hv
    rw [List.getElem?_take_of_lt hj, List.getElem?_drop] at hv
    simpa using hv)
  simp only [loadVar, Sem.run_bind, run_isAgg ha, Result.andThen_ok, if_true, run_sizeOf hs]
  rw [← hl, hr]
  rfl

theorem row_real {tmps : Array Value} (hi : Inv E G gs S tmps w) {r : Nat} {row : Row} (hr : rowAt S.rows r = some row) (hx : row.xs.length ≠ 0) : ∃ b, (gs r).1 = some b ∧ RowCells w G S.rows gs row b (gs r).2 := by
  have h := hi.row r row hr
  cases hb : (gs r).1 with
  | none => rw [hb] at h; exact absurd (by rw [h.1]; rfl) hx
  | some b => rw [hb] at h; exact ⟨b, rfl, h⟩
/-- What stands in a row, from cell o of element j on. -/
theorem row_seg (hi : Inv E G gs S a.tmps w) {r j o s : Nat} {row : Row} {x : A} (hr : rowAt S.rows r = some row) (hx : row.xs[j]? = some x) (hs : o + s ≤ row.n) (hno : ((x.cells.drop o).take s).all noOwn = true) :
    ∃ b cur e cs, (gs r).1 = some b ∧ w.heap[b]? = some (.cells cur e (0, 0)) ∧ (cur.toList.drop (j * row.n + o)).take s = cs ∧ TRelL w G S.rows gs ((x.cells.drop o).take s) cs [] ∧ cs.length = s := by
  have hj : j < row.xs.length := by
    rcases Nat.lt_or_ge j row.xs.length with h | h
    · exact h
    · rw [List.getElem?_eq_none h] at hx; simp at hx
  obtain ⟨b, hb, hrc⟩ := row_real hi hr (by omega)
  obtain ⟨cur, e, cap, h1, h2, h3, h4, h5, h6, h7⟩ := hrc.ex
  have h7' : TRelL w G S.rows gs (flat row.xs) (cur.toList.take (row.xs.length * row.n)) (gs r).2 := by
    unfold CellsRel at h7
    split at h7
    · exact h7
    · exact .of h7
  obtain ⟨F1, F2, e1, _, g2⟩ := h7'.take_ (j * row.n + o)
  obtain ⟨F3, F4, e2, g3, _⟩ := g2.take_ s
  rw [flat_seg h5 hx o s hs] at g3
  have hF := g3.noOwn hno
  subst hF
  have hle : (j + 1) * row.n ≤ row.xs.length * row.n := Nat.mul_le_mul_right _ hj
  rw [Nat.add_mul] at hle
  have e3 : ((cur.toList.take (row.xs.length * row.n)).drop (j * row.n + o)).take s = (cur.toList.drop (j * row.n + o)).take s := by
    rw [List.drop_take, List.take_take, Nat.min_eq_left (by omega)]
  rw [e3] at g3
  refine ⟨b, cur, e, _, hb, h1, rfl, g3, ?_⟩
  rw [g3.length]
  have hw := h5 x (List.mem_of_getElem? hx)
  unfold A.width at hw
  simp
  omega

def isPt : A → Bool
  | .pt _ _ _ => true
  | .rp _ => true
  | _ => false
theorem pt_inv {rows : List (Option Row)} {r j o : Nat} {u : Value} {F : List Nat} (h : TRel w G rows gs (.pt r j o) u F) : ∃ row b, rowAt rows r = some row ∧ (gs r).1 = some b ∧ u = .pointer (some ⟨b, j * row.n + o, none⟩) := by
  cases h with
  | of h => cases h
  | pt hr hb hk => exact ⟨_, _, hr, hb, by rw [hk]⟩
theorem rp_inv {rows : List (Option Row)} {xs : List A} {u : Value} {F : List Nat} (h : TRel w G rows gs (.rp xs) u F) :
    ∃ b k cur e fr, u = .pointer (some ⟨b, k, none⟩) ∧ w.heap[b]? = some (.cells cur e fr) ∧ G b ∧ RelL w G xs ((cur.toList.drop k).take xs.length) [] := by
  cases h with
  | of h => cases h with | rp hh hg hc hl => exact ⟨_, _, _, _, _, rfl, hh, hg, hc ▸ hl⟩

theorem VOK_load_pt {o : Oper} {t : TypeId} {x : Operand} {r j q : Nat} {row : Row} {y z : A} (ho : o.op = .load t x) (hx : okO x = true) (he : ev S x = .pt r j q) (hr : rowAt S.rows r = some row)
    (hy : row.xs[j]? = some y) (ha : aggT P t = some false) (hz : y.cells[q]? = some z) (hno : noOwn z = true) : VOK P o S z := by
  refine fun E G gs a w hi => ?_
  have h1 := ev_rel hi x hx
  rw [he] at h1
  obtain ⟨row', b, hr', hb, hv⟩ := pt_inv h1
  rw [hr] at hr'
  obtain rfl := Option.some.inj hr'
  have hq : q < y.cells.length := by
    rcases Nat.lt_or_ge q y.cells.length with h | h
    · exact h
    · rw [List.getElem?_eq_none h] at hz; simp at hz
  have hw : y.width = row.n := by
    obtain ⟨b', _, hrc⟩ := row_real hi hr (by
      intro h0
      rw [List.eq_nil_of_length_eq_zero h0] at hy
      simp at hy)
    obtain ⟨_, _, _, _, _, _, _, h5, _⟩ := hrc.ex
    exact h5 y (List.mem_of_getElem? hy)
  unfold A.width at hw
  have hseg : (y.cells.drop q).take 1 = [z] := by
    rw [List.drop_eq_getElem_cons hq]
    rw [List.getElem?_eq_getElem hq] at hz
    simp only [Option.some.injEq] at hz
    simp [hz]
  obtain ⟨b1, cur, e, cs, g0, g1, g2, g3, g4⟩ := row_seg hi hr hy (o := q) (s := 1) (by omega) (by rw [hseg]; simpa using hno)
  rw [hb] at g0
  obtain rfl := Option.some.inj g0
  rw [hseg] at g3
  obtain ⟨v, hv1, hv2⟩ := g3.get 0 z rfl
  have hcur : cur[j * row.n + q]? = some v := by
    rw [← g2] at hv1
    rw [List.getElem?_take_of_lt (by omega), List.getElem?_drop] at hv1
    simpa using hv1
  exact ⟨v, fun w' hw' => by simp [execOp, ho, Instr.loadAt, hv, Instr.sureAddr, run_loadVar_cell ha (keep_at hw' g1) hcur], hv2⟩
theorem VOK_load_ptAgg {o : Oper} {t : TypeId} {x : Operand} {r j q s : Nat} {row : Row} {y : A} (ho : o.op = .load t x) (hx : okO x = true) (he : ev S x = .pt r j q) (hr : rowAt S.rows r = some row)
    (hy : row.xs[j]? = some y) (ha : aggT P t = some true) (hs : szT P t = some s) (hq : q + s ≤ row.n) (hno : ((y.cells.drop q).take s).all noOwn = true) : VOK P o S (.agg ((y.cells.drop q).take s)) := by
  refine fun E G gs a w hi => ?_
  have h1 := ev_rel hi x hx
  rw [he] at h1
  obtain ⟨row', b, hr', hb, hv⟩ := pt_inv h1
  rw [hr] at hr'
  obtain rfl := Option.some.inj hr'
  obtain ⟨b1, cur, e, cs, g0, g1, g2, g3, g4⟩ := row_seg hi hr hy hq hno
  rw [hb] at g0
  obtain rfl := Option.some.inj g0
  exact ⟨.agg cs.toArray, fun w' hw' => by simp [execOp, ho, Instr.loadAt, hv, Instr.sureAddr, run_loadVar_agg ha hs (keep_at hw' g1) g2 g4], .agg g3⟩
theorem VOK_load_rp {o : Oper} {t : TypeId} {x : Operand} {xs : List A} {z : A} (ho : o.op = .load t x) (hx : okO x = true) (he : ev S x = .rp xs)
    (ha : aggT P t = some false) (hz : xs[0]? = some z) : VOK P o S z := by
  refine fun E G gs a w hi => ?_
  have h1 := ev_rel hi x hx
  rw [he] at h1
  obtain ⟨b, k, cur, e, fr, hv, hh, hg, hl⟩ := rp_inv h1
  obtain ⟨v, hv1, hv2⟩ := hl.get 0 z hz
  have hcur : cur[k]? = some v := by
    have h0 : 0 < xs.length := by
      rcases Nat.eq_zero_or_pos xs.length with h | h
      · rw [List.eq_nil_of_length_eq_zero h] at hz; simp at hz
      · exact h
    rw [List.getElem?_take_of_lt h0, List.getElem?_drop] at hv1
    simpa using hv1
  exact ⟨v, fun w' hw' => by simp [execOp, ho, Instr.loadAt, hv, Instr.sureAddr, run_loadVar_cell ha (keep_at hw' hh) hcur], .of hv2⟩
theorem VOK_load_rpAgg {o : Oper} {t : TypeId} {x : Operand} {xs : List A} {s : Nat} (ho : o.op = .load t x) (hx : okO x = true) (he : ev S x = .rp xs)
    (ha : aggT P t = some true) (hs : szT P t = some s) (hq : s ≤ xs.length) : VOK P o S (.agg (xs.take s)) := by
  refine fun E G gs a w hi => ?_
  have h1 := ev_rel hi x hx
  rw [he] at h1
  obtain ⟨b, k, cur, e, fr, hv, hh, hg, hl⟩ := rp_inv h1
  have h2 := hl.take0 s
  have h3 := h2.length
  rw [List.take_take, Nat.min_eq_left hq] at h2 h3
  exact ⟨.agg ((cur.toList.drop k).take s).toArray, by
    intro w' hw'
    simp [execOp, ho, Instr.loadAt, hv, Instr.sureAddr, run_loadVar_agg ha hs (keep_at hw' hh) rfl (by rw [h3]; simp; omega)], .of (.agg h2)⟩

theorem VOK_fieldAddr_pt {o : Oper} {t : TypeId} {x : Operand} {i r j q off s : Nat} {g : Bool} (ho : o.op = .fieldAddr t x i) (hx : okO x = true) (he : ev S x = .pt r j q)
    (hf : fieldT P t i = some (off, s, g)) (hs : s ≠ 0) : VOK P o S (.pt r j (q + off)) := by
  refine fun E G gs a w hi => ?_
  have h1 := ev_rel hi x hx
  rw [he] at h1
  obtain ⟨row, b, hr, hb, hv⟩ := pt_inv h1
  unfold fieldT at hf
  split at hf <;> try simp at hf
  rename_i fs hu
  split at hf <;> try simp at hf
  rename_i f hfi
  split at hf <;> try simp at hf
  rename_i s' g' hsz hag
  obtain ⟨rfl, rfl, rfl⟩ := hf
  refine ⟨.pointer (some ⟨b, j * row.n + (q + f.offset), none⟩), ?_, .pt hr hb rfl⟩
  intro w' hw'
  simp [execOp, ho, Instr.fieldAt, run_underlying hu, hfi, hv, Instr.sureAddr, fieldPlace, run_sizeOf hsz, hs, add_none, Nat.add_assoc]
theorem VOK_fieldAddr_rp {o : Oper} {t : TypeId} {x : Operand} {xs : List A} {i off s : Nat} {g : Bool} (ho : o.op = .fieldAddr t x i) (hx : okO x = true) (he : ev S x = .rp xs)
    (hf : fieldT P t i = some (off, s, g)) (hs : s ≠ 0) : VOK P o S (.rp (xs.drop off)) := by
  refine fun E G gs a w hi => ?_
  have h1 := ev_rel hi x hx
  rw [he] at h1
  obtain ⟨b, k, cur, e, fr, hv, hh, hg, hl⟩ := rp_inv h1
  unfold fieldT at hf
  split at hf <;> try simp at hf
  rename_i fs hu
  split at hf <;> try simp at hf
  rename_i f hfi
  split at hf <;> try simp at hf
  rename_i s' g' hsz hag
  obtain ⟨rfl, rfl, rfl⟩ := hf
  refine ⟨.pointer (some ⟨b, k + f.offset, none⟩), ?_, .of (.rp hh hg rfl ?_)⟩
  · intro w' hw'
    simp [execOp, ho, Instr.fieldAt, run_underlying hu, hfi, hv, Instr.sureAddr, fieldPlace, run_sizeOf hsz, hs, add_none]
  · have := hl.drop0 f.offset
    rw [List.drop_take, List.drop_drop] at this
    simpa using this

theorem vw_inv {rows : List (Option Row)} {r off len : Nat} {u : Value} {F : List Nat} (h : TRel w G rows gs (.vw r off len) u F) :
    (∃ row k cap cur e b, rowAt rows r = some row ∧ (gs r).1 = some b ∧ off + len ≤ row.xs.length ∧ w.heap[b]? = some (.cells cur e (0, 0)) ∧ cur.size = cap * row.n ∧ cap ≤ maxLen ∧ row.xs.length ≤ cap ∧
      (k = off * row.n ∨ (cap = off ∧ 0 < off)) ∧ u = .slice (some ⟨b, k, none⟩) len (cap - off)) ∨
    (∃ row, rowAt rows r = some row ∧ (gs r).1 = none ∧ row.xs = [] ∧ off = 0 ∧ len = 0 ∧ u = .slice none 0 0) := by
  cases h with
  | of h => cases h
  | vw hr hb hl hh hs hm hc hk => exact .inl ⟨_, _, _, _, _, _, hr, hb, hl, hh, hs, hm, hc, hk, rfl⟩
  | vwn hr hb hx => exact .inr ⟨_, hr, hb, hx, rfl, rfl, rfl⟩
theorem slf_inv {rows : List (Option Row)} {n : Nat} {xs : List A} {u : Value} {F : List Nat} (h : TRel w G rows gs (.sl false n xs) u F) :
    ((∃ oa, u = .slice oa 0 0) ∧ xs = []) ∨ ∃ b k cap cur e fr, u = .slice (some ⟨b, k, none⟩) xs.length cap ∧ w.heap[b]? = some (.cells cur e fr) ∧ G b ∧ (∀ x ∈ xs, x.width = n) ∧
      RelL w G (flat xs) ((cur.toList.drop k).take (xs.length * n)) [] ∧ xs.length ≤ cap ∧ cap ≤ maxLen := by
  cases h with
  | of h => cases h with
    | nils => exact .inl ⟨⟨_, rfl⟩, rfl⟩
    | roz => exact .inl ⟨⟨_, rfl⟩, rfl⟩
    | ro hh hg hw hlen hc hl hcap hm => subst hlen; subst hc; exact .inr ⟨_, _, _, _, _, _, rfl, hh, hg, hw, hl, hcap, hm⟩

theorem elemT_inv {t e : TypeId} (h : elemT P t = some e) : P.underlying t = some (.slice e) := by
  unfold elemT at h
  split at h
  · rename_i h'; simp at h; subst h; exact h'
  · simp at h
theorem VOK_indexAddr_vw {o : Oper} {t e : TypeId} {x y : Operand} {r off len : Nat} {k : IntKind} {i : Int} {row : Row} (ho : o.op = .indexAddr t x y) (hx : okO x = true) (hy : okO y = true)
    (h1 : ev S x = .vw r off len) (h2 : ev S y = .sc (.int k i)) (hr : rowAt S.rows r = some row) (he : elemT P t = some e) (hs : szT P e = some row.n) (h0 : 0 ≤ i) (hl : i < len)
    : VOK P o S (.pt r (off + i.toNat) 0) := by
  refine fun E G gs a w hi => ?_
  have e1 := ev_rel hi x hx
  have e2 := ev_rel hi y hy
  rw [h1] at e1
  rw [h2] at e2
  obtain ⟨row', kk, cap, cur, et, b, hr', hob, g1, g2, g3, g4, g5, g6, hv⟩ := (vw_inv e1).resolve_right (by
    intro ⟨_, _, _, _, _, h0, _⟩
    omega)
  rw [hr] at hr'
  obtain rfl := Option.some.inj hr'
  have hv2 := (sc_inv e2).1
  have hk : kk = off * row.n := by rcases g6 with h | h <;> omega
  subst hk
  refine ⟨_, ?_, .pt hr hob rfl⟩
  intro w' hw'
  simp [execOp, ho, hv, hv2, Instr.indexAt, asIntOf, run_underlying (elemT_inv he), h0, hl, run_sizeOf hs, add_none, Nat.add_mul]
theorem VOK_indexAddr_sl {o : Oper} {t e : TypeId} {x y : Operand} {n : Nat} {xs : List A} {k : IntKind} {i : Int} {z : A} (ho : o.op = .indexAddr t x y) (hx : okO x = true) (hy : okO y = true)
    (h1 : ev S x = .sl false n xs) (h2 : ev S y = .sc (.int k i)) (he : elemT P t = some e) (hs : szT P e = some n) (h0 : 0 ≤ i) (hz : xs[i.toNat]? = some z)
    : VOK P o S (.rp z.cells) := by
  refine fun E G gs a w hi => ?_
  have e1 := ev_rel hi x hx
  have e2 := ev_rel hi y hy
  rw [h1] at e1
  rw [h2] at e2
  have hv2 := (sc_inv e2).1
  have hl : i.toNat < xs.length := by
    rcases Nat.lt_or_ge i.toNat xs.length with h | h
    · exact h
    · rw [List.getElem?_eq_none h] at hz; simp at hz
  rcases slf_inv e1 with ⟨_, rfl⟩ | ⟨b, kk, cap, cur, et, fr, hv, hh, hg, hw, hrel, hcap, hm⟩
  · simp at hl
  · refine ⟨.pointer (some ⟨b, kk + i.toNat * n, none⟩), ?_, .of (.rp hh hg rfl ?_)⟩
    · have : i < (xs.length : Int) := by omega
      intro w' hw'
      simp [execOp, ho, hv, hv2, Instr.indexAt, asIntOf, run_underlying (elemT_inv he), h0, this, run_sizeOf hs, add_none]
    · have h3 := (hrel.drop0 (i.toNat * n)).take0 n
      have hseg := flat_seg hw hz 0 n (by omega)
      simp only [Nat.add_zero, List.drop_zero] at hseg
      have hzw := hw z (List.mem_of_getElem? hz)
      unfold A.width at hzw
      rw [hseg, ← hzw, List.take_length, hzw] at h3
      have hle : (i.toNat + 1) * n ≤ xs.length * n := Nat.mul_le_mul_right _ hl
      rw [Nat.add_mul] at hle
      rw [List.drop_take, List.take_take, Nat.min_eq_left (by omega), List.drop_drop] at h3
      rw [hzw]
      exact h3

def lenA : A → Option Nat
  | .nil => some 0
  | .sl false _ xs => some xs.length
  | .vw _ _ len => some len
  | .sc (.string s) => some (bs s).length
  | _ => none
theorem VOK_len {o : Oper} {t : TypeId} {x : Operand} {n : Nat} (ho : o.op = .call { callee := .builtin .len, args := #[x], argTypes := #[t] }) (hx : okO x = true)
    (ht : (elemT P t).isSome = true ∨ isStrT P t = true) (hn : lenA (ev S x) = some n)
    (htx : isStrT P t = true ↔ ∃ s, ev S x = .sc (.string s)) : VOK P o S (.sc (.int .i64 n)) := by
  refine fun E G gs a w hi => ⟨.int .i64 n, ?_, .of (.sc rfl)⟩
  have e1 := ev_rel hi x hx
  by_cases hs : isStrT P t = true
  · obtain ⟨s, hes⟩ := htx.1 hs
    rw [hes] at e1 hn
    have hv := (sc_inv e1).1
    simp only [lenA, Option.some.injEq] at hn
    have hu : P.underlying t = some .string := by
      unfold isStrT at hs
      split at hs
      · assumption
      · simp at hs
    subst hn
    intro w' hw'
    simp [execOp, ho, resolve, invoke, builtin, Builtin.len_, run_underlying hu, hv, goInt, bs_length]
  · obtain ⟨e, he⟩ := Option.isSome_iff_exists.1 (ht.resolve_right hs)
    have hu := elemT_inv he
    have : ∃ b c, a.eval x = .slice b n c := by
      generalize ev S x = q at e1 hn htx
      cases q <;> simp [lenA] at hn
      case sc v =>
        cases v <;> simp [lenA] at hn
        exact absurd (htx.2 ⟨_, rfl⟩) hs
      case nil =>
        subst hn
        generalize a.eval x = u at e1
        cases e1 with
        | of h => cases h; exact ⟨none, 0, rfl⟩
      case sl o n' xs =>
        cases o <;> simp [lenA] at hn
        subst hn
        rcases slf_inv e1 with ⟨⟨oa, h⟩, rfl⟩ | ⟨b, kk, cap, cur, et, fr, hv, _⟩
        · exact ⟨_, _, h⟩
        · exact ⟨_, _, hv⟩
      case vw r off len =>
        subst hn
        rcases vw_inv e1 with ⟨_, _, _, _, _, _, _, _, _, _, _, _, _, _, hv⟩ | ⟨_, _, _, _, _, h0, hv⟩
        · exact ⟨_, _, hv⟩
        · subst h0; exact ⟨_, _, hv⟩
    obtain ⟨b, c, hv⟩ := this
    intro w' hw'
    simp [execOp, ho, resolve, invoke, builtin, Builtin.len_, run_underlying hu, hv, goInt]
end
end Go.Fw

/- Operations that make memory or write it. Plain theorems, no condition. -/
set_option linter.unusedVariables false
set_option linter.unusedSimpArgs false
namespace Go.Fw

section
variable {P : Program} {E : Env} {G : Nat → Prop} {gs : Gh} {S : State} {a : Act} {w : World} {tmps : Array Value}

theorem heap_alloc_self (w : World) (o : Obj) : (w.alloc o).heap[w.heap.size]? = some o := heap_alloc_new w o
theorem heap_alloc_lt (w : World) (o : Obj) {k : Nat} (h : k < w.heap.size) : (w.alloc o).heap[k]? = w.heap[k]? := heap_alloc_old w o k h
theorem rowAt_push (rows : List (Option Row)) (x : Option Row) (r : Nat) : rowAt (rows ++ [x]) r = if r = rows.length then x else rowAt rows r := by
  unfold rowAt
  rcases Nat.lt_trichotomy r rows.length with h | h | h
  · rw [List.getElem?_append_left h, if_neg (by omega)]
  · subst h; simp
  · rw [if_neg (by omega), List.getElem?_append_right (by omega), List.getElem?_eq_none (by simp; omega), List.getElem?_eq_none (by omega)]
theorem rowAt_none {rows : List (Option Row)} {r : Nat} (h : rows.length ≤ r) : rowAt rows r = none := by
  unfold rowAt; rw [List.getElem?_eq_none h]; rfl
theorem rowAt_lt {rows : List (Option Row)} {r : Nat} {row : Row} (h : rowAt rows r = some row) : r < rows.length := by
  rcases Nat.lt_or_ge r rows.length with h' | h'
  · exact h'
  · rw [rowAt_none h'] at h; simp at h

/-- Blocks that are set aside: held by values on their way into memory. -/
structure Res (E : Env) (G : Nat → Prop) (gs : Gh) (rows : List (Option Row)) (R : List Nat) : Prop where
  nod : R.Nodup
  own : ∀ b ∈ R, ¬ G b ∧ (E.Fin b ∨ E.w0.heap.size ≤ b)
  dis : ∀ r row, rowAt rows r = some row → ∀ b ∈ gs.all r, b ∉ R
theorem Res.nil : Res E G gs S.rows [] := ⟨.nil, by simp, by simp⟩

def State.addRow (S : State) (row : Row) : State := { S with rows := S.rows ++ [some row] }
def Gh.add (gs : Gh) (r : Nat) (b : Option Nat) (F : List Nat) : Gh := fun i => if i = r then (b, F) else gs i

theorem RowLe.refl_of {w' : World} {rows rows' : List (Option Row)} {gs gs' : Gh} {r : Nat} (h1 : ∀ row, rowAt rows r = some row → rowAt rows' r = some row ∧ (gs' r).1 = (gs r).1 ∧ ∀ b, (gs r).1 = some b → w'.heap[b]? = w.heap[b]?) :
    RowLe w w' rows rows' gs gs' r := ⟨fun row hr => by
      obtain ⟨g1, g2, g3⟩ := h1 row hr
      exact ⟨row, g1, g2, rfl, rfl, fun b cur e hb hh => ⟨cur, e, by rw [g3 b hb]; exact hh, rfl⟩⟩⟩

theorem Inv.block_lt (hi : Inv E G gs S tmps w) {r : Nat} {row : Row} (hr : rowAt S.rows r = some row) : ∀ b ∈ gs.all r, b < w.heap.size := by
  intro b hb
  have h := hi.row r row hr
  unfold Gh.all at hb
  cases hob : (gs r).1 with
  | none =>
    rw [hob] at h hb
    rw [h.2] at hb
    simp at hb
  | some b0 =>
    rw [hob] at h hb
    obtain ⟨cur, e, cap, h1, h2, h3, h4, h5, h6, h7⟩ := h.ex
    rcases List.mem_append.1 hb with hb | hb
    · simp at hb; subst hb
      exact (Array.getElem?_eq_some_iff.1 h1).1
    · unfold CellsRel at h7
      split at h7
      · refine TRelL.rec (motive_1 := fun x v F _ => ∀ b ∈ F, b < w.heap.size) (motive_2 := fun xs vs F _ => ∀ b ∈ F, b < w.heap.size) ?_ ?_ ?_ ?_ ?_ ?_ ?_ ?_ ?_ ?_ h7 b hb
        · intros; simp_all
        · intro x v F h b hb; exact h.lt b hb
        · intros; simp_all
        · intros; simp_all
        · intros; simp_all
        · intro xs cs F hl ih; exact ih
        · intro xs cs F hl ih; exact ih
        · intro g caps cs F hl ih; exact ih
        · intros; simp_all
        · intro x v F xs vs Fs h hl ih ih' b hb
          rcases List.mem_append.1 hb with hb | hb
          · exact ih b hb
          · exact ih' b hb
      · exact h7.lt b hb

/-- A row more: its blocks are laid in w' (a new one, or some that came with a call); what was there stands. -/
theorem Inv.adopt (hi : Inv E G gs S tmps w) {w' : World} {G' : Nat → Prop} {R : List Nat} {ob : Option Nat} {row : Row}
    (hos : w'.os = w.os) (htape : w'.tape = w.tape) (hout : w'.output = w.output) (hsize : w.heap.size ≤ w'.heap.size) (hold : ∀ b, b < w.heap.size → w'.heap[b]? = w.heap[b]?)
    (hG1 : ∀ b, G b → G' b) (hG2 : ∀ b, G' b → G b ∨ w.heap.size ≤ b) (hG3 : ∀ b, G' b → b < w'.heap.size)
    (hnod : (ob.toList ++ R).Nodup) (hown : ∀ b ∈ ob.toList ++ R, ¬ G' b ∧ (E.Fin b ∨ E.w0.heap.size ≤ b)) (hdis : ∀ r row', rowAt S.rows r = some row' → ∀ b ∈ gs.all r, b ∉ ob.toList ++ R)
    (hrow : ∀ rows' gs', (∀ r row', rowAt S.rows r = some row' → rowAt rows' r = some row' ∧ gs' r = gs r) → RowRel w' G' rows' gs' row ob R) :
    Inv E G' (gs.add S.rows.length ob R) (S.addRow row) tmps w' := by
  have hG : ∀ b, G b → G' b ∧ w'.heap[b]? = w.heap[b]? := fun b hb => ⟨hG1 b hb, hold b (hi.glt b hb)⟩
  have hne : ∀ r row', rowAt S.rows r = some row' → r ≠ S.rows.length := fun r row' hr => by have := rowAt_lt hr; omega
  have hgs : ∀ r row', rowAt S.rows r = some row' → (gs.add S.rows.length ob R) r = gs r := fun r row' hr => by simp [Gh.add, hne r row' hr]
  have hrows : ∀ r row', rowAt S.rows r = some row' → rowAt (S.addRow row).rows r = some row' := fun r row' hr => by
    show rowAt (S.rows ++ [some row]) r = _
    rw [rowAt_push, if_neg (hne r row' hr)]; exact hr
  have hblk : ∀ r row', rowAt S.rows r = some row' → ∀ c ∈ gs.all r, w'.heap[c]? = w.heap[c]? := fun r row' hr c hc => hold c (hi.block_lt hr c hc)
  have hle : ∀ r, RowLe w w' S.rows (S.addRow row).rows gs (gs.add S.rows.length ob R) r := fun r => RowLe.refl_of fun row' hr =>
    ⟨hrows r row' hr, by rw [hgs r row' hr], fun b hb => hblk r row' hr b (by simp [Gh.all, hb])⟩
  have hcase : ∀ r row', rowAt (S.addRow row).rows r = some row' → (r = S.rows.length ∧ row' = row) ∨ (r ≠ S.rows.length ∧ rowAt S.rows r = some row') := fun r row' hr => by
    have hr' : rowAt (S.rows ++ [some row]) r = some row' := hr
    rw [rowAt_push] at hr'
    split at hr'
    · rename_i h; exact .inl ⟨h, (Option.some.inj hr').symm⟩
    · rename_i h; exact .inr ⟨h, hr'⟩
  have hself : (gs.add S.rows.length ob R) S.rows.length = (ob, R) := by simp [Gh.add]
  have hall0 : (gs.add S.rows.length ob R).all S.rows.length = ob.toList ++ R := by simp [Gh.all, hself]
  have hall : ∀ r row', rowAt S.rows r = some row' → (gs.add S.rows.length ob R).all r = gs.all r := fun r row' hr => by simp only [Gh.all, hgs r row' hr]
  refine ⟨fun b hb hf => ?_, hos.trans hi.os, htape.trans hi.tape, hout.trans hi.output, Nat.le_trans hi.size hsize, hi.sz, fun b hb => hG1 b (hi.gsub b hb), fun b hb => ?_, hG3, fun r row' hr => ?_, fun r row' hr => ?_, fun r row' hr => ?_, fun r r' row' row'' hr hr' hne' => ?_, fun i => ?_⟩
  · rw [hold b (Nat.lt_of_lt_of_le hb hi.size)]; exact hi.keep b hb hf
  · rcases hG2 b hb with h | h
    · exact hi.gnew b h
    · exact .inr (Nat.le_trans hi.size h)
  · rcases hcase r row' hr with ⟨rfl, rfl⟩ | ⟨_, hr0⟩
    · rw [hself]
      exact hrow _ _ fun r row' hr => ⟨hrows r row' hr, hgs r row' hr⟩
    · rw [hgs r row' hr0]
      exact (hi.row r row' hr0).step hG hle (hblk r row' hr0)
  · rcases hcase r row' hr with ⟨rfl, rfl⟩ | ⟨_, hr0⟩
    · rw [hall0]; exact hnod
    · rw [hall r row' hr0]; exact hi.nod r row' hr0
  · rcases hcase r row' hr with ⟨rfl, rfl⟩ | ⟨_, hr0⟩
    · rw [hall0]; exact hown
    · rw [hall r row' hr0]
      intro b hb
      obtain ⟨h1, h2⟩ := hi.own r row' hr0 b hb
      refine ⟨fun h => ?_, h2⟩
      rcases hG2 b h with h | h
      · exact h1 h
      · have := hi.block_lt hr0 b hb; omega
  · rcases hcase r row' hr with ⟨rfl, rfl⟩ | ⟨h1, hr0⟩ <;> rcases hcase r' row'' hr' with ⟨rfl, rfl⟩ | ⟨h2, hr0'⟩
    · exact absurd rfl hne'
    · rw [hall0, hall r' row'' hr0']
      intro b hb hb'
      exact hdis r' row'' hr0' b hb' hb
    · rw [hall0, hall r row' hr0]
      intro b hb hb'
      exact hdis r row' hr0 b hb hb'
    · rw [hall r row' hr0, hall r' row'' hr0']
      exact hi.dis r r' row' row'' hr0 hr0' hne'
  · exact (hi.tmp i).step hG hle (by simp)

/-- A new block. -/
theorem Inv.addRow (hi : Inv E G gs S tmps w) {R : List Nat} (hR : Res E G gs S.rows R) {row : Row} {cur : Array Value} {e : TypeId} {cap : Nat} (hs : cur.size = cap * row.n) (hlen : row.xs.length ≤ cap) (hm : cap ≤ maxLen)
    (hw : ∀ x ∈ row.xs, x.width = row.n) (hv : ∀ v ∈ cur.toList.take (row.xs.length * row.n), cellV v = true)
    (hc : CellsRel row.lk w G S.rows gs (flat row.xs) (cur.toList.take (row.xs.length * row.n)) R) (hRlt : ∀ b ∈ R, b < w.heap.size) :
    Inv E G (gs.add S.rows.length (some w.heap.size) R) (S.addRow row) tmps (w.alloc (.cells cur e)) := by
  have hold : ∀ b, b < w.heap.size → (w.alloc (.cells cur e)).heap[b]? = w.heap[b]? := fun b hb => heap_alloc_lt w _ hb
  refine hi.adopt rfl rfl rfl (by simp) hold (fun _ h => h) (fun _ h => .inl h) (fun b hb => by have := hi.glt b hb; simp; omega) ?_ ?_ ?_ ?_
  · exact List.nodup_cons.2 ⟨fun h => by have := hRlt _ h; omega, hR.nod⟩
  · intro b hb
    rcases List.mem_cons.1 hb with rfl | hb
    · exact ⟨fun h => by have := hi.glt _ h; omega, .inr hi.size⟩
    · exact hR.own b hb
  · intro r row' hr b hb hb'
    rcases List.mem_cons.1 hb' with rfl | hb'
    · have := hi.block_lt hr _ hb; omega
    · exact hR.dis r row' hr b hb hb'
  · intro rows' gs' hrows
    refine ⟨cur, e, cap, heap_alloc_self w _, hs, hlen, hm, hw, hv, ?_⟩
    have hF : ∀ b ∈ R, (w.alloc (.cells cur e)).heap[b]? = w.heap[b]? := fun b hb => hold b (hRlt b hb)
    have hG : ∀ b, G b → G b ∧ (w.alloc (.cells cur e)).heap[b]? = w.heap[b]? := fun b hb => ⟨hb, hold b (hi.glt b hb)⟩
    unfold CellsRel at hc ⊢
    split
    · rename_i hl
      rw [if_pos hl] at hc
      refine hc.step hG (fun r => RowLe.refl_of fun row' hr => ?_) hF
      obtain ⟨g1, g2⟩ := hrows r row' hr
      exact ⟨g1, by rw [g2], fun b hb => hold b (hi.block_lt hr b (by simp [Gh.all, hb]))⟩
    · rename_i hl; rw [if_neg hl] at hc; exact hc.move_ hG hF

/-- The temporary that leads to a row just made. -/
theorem addRow_vw {R : List Nat} {row : Row} {cur : Array Value} {e : TypeId} {cap : Nat} (hs : cur.size = cap * row.n) (hlen : row.xs.length ≤ cap) (hm : cap ≤ maxLen) (len : Nat) (hl : len ≤ row.xs.length) :
    TRel (w.alloc (.cells cur e)) G (S.addRow row).rows (gs.add S.rows.length (some w.heap.size) R) (.vw S.rows.length 0 len) (.slice (some ⟨w.heap.size, 0, none⟩) len cap) [] := by
  have e1 : ((gs.add S.rows.length (some w.heap.size) R) S.rows.length).1 = some w.heap.size := by simp [Gh.add]
  have hr : rowAt (S.addRow row).rows S.rows.length = some row := by
    show rowAt (S.rows ++ [some row]) S.rows.length = _
    rw [rowAt_push, if_pos rfl]
  have := TRel.vw (w := w.alloc (.cells cur e)) (G := G) (rows := (S.addRow row).rows) (gs := gs.add S.rows.length (some w.heap.size) R) (off := 0) (len := len) (k := 0) hr e1 (by omega) (heap_alloc_self w _) hs hm hlen (.inl (by simp))
  simpa using this
theorem addRow_pt {R : List Nat} {row : Row} {cur : Array Value} {e : TypeId} :
    TRel (w.alloc (.cells cur e)) G (S.addRow row).rows (gs.add S.rows.length (some w.heap.size) R) (.pt S.rows.length 0 0) (.pointer (some ⟨w.heap.size, 0, none⟩)) [] := by
  have e1 : ((gs.add S.rows.length (some w.heap.size) R) S.rows.length).1 = some w.heap.size := by simp [Gh.add]
  have hr : rowAt (S.addRow row).rows S.rows.length = some row := by
    show rowAt (S.rows ++ [some row]) S.rows.length = _
    rw [rowAt_push, if_pos rfl]
  exact TRel.pt (w := w.alloc (.cells cur e)) (G := G) (rows := (S.addRow row).rows) (gs := gs.add S.rows.length (some w.heap.size) R) (j := 0) (o := 0) (k := 0) hr e1 (by simp)

/-- What may stand in a cell. -/
def okCell : A → Bool
  | .un => false
  | .agg _ => false
  | .tup _ => false
  | _ => true
theorem okCell_v {rows : List (Option Row)} {x : A} {v : Value} {F : List Nat} (h : TRel w G rows gs x v F) (hx : okCell x = true) : cellV v = true := by
  cases h with
  | of h => cases h <;> first | assumption | rfl | exact mkFn_cell _ _ | simp [okCell] at hx
  | un => simp [okCell] at hx
  | vw => rfl
  | vwn => rfl
  | pt => rfl
  | agg => simp [okCell] at hx
  | tup => simp [okCell] at hx
  | clo => exact mkFn_cell _ _
theorem okCells_v {rows : List (Option Row)} : ∀ {xs : List A} {vs : List Value} {F : List Nat}, TRelL w G rows gs xs vs F → xs.all okCell = true → ∀ v ∈ vs, cellV v = true
  | _, _, _, .nil, _, v, hv => by simp at hv
  | _, _, _, .cons h hl, hx, v, hv => by
    simp only [List.all_cons, Bool.and_eq_true] at hx
    rcases List.mem_cons.1 hv with rfl | hv
    · exact okCell_v h hx.1
    · exact okCells_v hl hx.2 v hv
theorem cells_rel {rows : List (Option Row)} {x : A} {v : Value} (h : TRel w G rows gs x v []) (hx : x.cells.all okCell = true) : TRelL w G rows gs x.cells v.cells.toList [] := by
  have one : okCell x = true → TRelL w G rows gs [x] v.cells.toList [] := fun ho => by
    have hv := okCell_v h ho
    have : v.cells = #[v] := by cases v <;> simp_all [Value.cells, cellV, Value.oneCell']
    rw [this]
    exact .cons (F := []) (Fs := []) h .nil
  cases x with
  | agg xs =>
    obtain ⟨cs, rfl, hl⟩ := agg_inv h
    exact hl
  | _ => exact one (by simpa [A.cells] using hx)

theorem opOK_row {o : Oper} {K : State → Prop} {row : Row} (x : A) (hK : K ((S.addRow row).put o.dst x))
    (h : ∀ (E : Env) (G : Nat → Prop) (gs : Gh) (a : Act) (w : World), Inv E G gs S a.tmps w → ∃ (v : Value) (cur : Array Value) (e : TypeId) (cap : Nat), (execOp a.eval o).run P w = .ok (.value v) (w.alloc (.cells cur e)) ∧ cur.size = cap * row.n ∧ row.xs.length ≤ cap ∧ cap ≤ maxLen ∧
      (∀ x ∈ row.xs, x.width = row.n) ∧ (∀ v ∈ cur.toList.take (row.xs.length * row.n), cellV v = true) ∧ CellsRel row.lk w G S.rows gs (flat row.xs) (cur.toList.take (row.xs.length * row.n)) [] ∧
      TRel (w.alloc (.cells cur e)) G (S.addRow row).rows (gs.add S.rows.length (some w.heap.size) []) x v []) : opOK P o S K := by
  intro E a w next Q hs hn
  obtain ⟨hd, G, gs, hi⟩ := hs
  obtain ⟨v, cur, e, cap, hr, h1, h2, h3, h4, h5, h6, hx⟩ := h E G gs a w hi
  unfold Oper.wp
  rw [hr]
  have hi' := hi.addRow (e := e) Res.nil h1 h2 h3 h4 h5 h6 (by simp)
  exact hn _ _ _ hK ⟨by rw [put_defers]; exact hd, G, _, Inv.put (S := S.addRow row) hi' hx o.dst⟩

theorem one_row_cells {x : A} {cs : List Value} (h : cs.length = x.width) : cs.take ([x].length * x.width) = cs := by
  rw [List.length_singleton, Nat.one_mul, ← h, List.take_length]
theorem flat_one (x : A) : flat [x] = x.cells := by simp [flat]

/-- A variable in memory. -/
theorem opOK_box {o : Oper} {K : State → Prop} {t : TypeId} {x : Operand} (ho : o.op = .box t x) (hx : okO x = true) (hc : (ev S x).cells.all okCell = true)
    (hK : K ((S.addRow ⟨(ev S x).width, [ev S x], true⟩).put o.dst (.pt S.rows.length 0 0))) : opOK P o S K := by
  refine opOK_row (row := ⟨(ev S x).width, [ev S x], true⟩) _ hK fun E G gs a w hi => ?_
  have h1 := ev_rel hi x hx
  have h2 := cells_rel h1 hc
  have hl : (a.eval x).cells.toList.length = (ev S x).width := by rw [h2.length]; rfl
  refine ⟨.pointer (some ⟨w.heap.size, 0, none⟩), (a.eval x).cells, t, 1, ?_, ?_, by simp, by simp [maxLen], by simp, ?_, ?_, addRow_pt⟩
  · simp [execOp, ho, Instr.box, newVar, newRow]
  · simpa using hl
  · rw [one_row_cells hl]; exact okCells_v h2 hc
  · rw [one_row_cells hl, flat_one]; exact h2
theorem opOK_alloc {o : Oper} {K : State → Prop} {t : TypeId} {z : Value} (ho : o.op = .alloc t) (hz : zeroT P t = some z) (hv : okV z = true)
    (hK : K ((S.addRow ⟨(constA z).width, [constA z], true⟩).put o.dst (.pt S.rows.length 0 0))) : opOK P o S K := by
  refine opOK_row (row := ⟨(constA z).width, [constA z], true⟩) _ hK fun E G gs a w hi => ?_
  have h1 : TRel w G S.rows gs (constA z) z [] := .of (rel_constA hv)
  have hc : (constA z).cells.all okCell = true := by
    have hcell : ∀ v, okCell (cellA v) = true := fun v => by unfold cellA; split <;> rfl
    unfold constA
    split
    · simp [A.cells, hcell]
    · rename_i hne
      have : (cellA z).cells = [cellA z] := by
        unfold cellA; split <;> rfl
      rw [this]; simp [hcell]
  have h2 := cells_rel h1 hc
  have hl : z.cells.toList.length = (constA z).width := by rw [h2.length]; rfl
  refine ⟨.pointer (some ⟨w.heap.size, 0, none⟩), z.cells, t, 1, ?_, ?_, by simp, by simp [maxLen], by simp, ?_, ?_, addRow_pt⟩
  · simp [execOp, ho, Instr.alloc, run_zero hz, newVar, newRow]
  · simpa using hl
  · rw [one_row_cells hl]; exact okCells_v h2 hc
  · rw [one_row_cells hl, flat_one]; exact h2
end
end Go.Fw

/- More operations: structs as values, strings, slices. Plain theorems, no condition. -/
set_option linter.unusedVariables false
set_option linter.unusedSimpArgs false
namespace Go.Fw

section
variable {P : Program} {E : Env} {G : Nat → Prop} {gs : Gh} {S : State} {a : Act} {w : World} {tmps : Array Value}

theorem fieldT_inv {t : TypeId} {i off s : Nat} {g : Bool} (h : fieldT P t i = some (off, s, g)) :
    ∃ fs f, P.underlying t = some (.struct fs) ∧ fs[i]? = some f ∧ f.offset = off ∧ szT P f.type = some s ∧ aggT P f.type = some g := by
  unfold fieldT at h
  split at h <;> try simp at h
  rename_i fs hu
  split at h <;> try simp at h
  rename_i f hfi
  split at h <;> try simp at h
  rename_i s' g' hsz hag
  obtain ⟨h1, h2, h3⟩ := h
  exact ⟨fs, f, hu, hfi, h1, by rw [hsz, h2], by rw [hag, h3]⟩

theorem VOK_field {o : Oper} {t : TypeId} {x : Operand} {i off s : Nat} {g : Bool} {xs : List A} (ho : o.op = .field t x i) (hx : okO x = true) (he : ev S x = .agg xs)
    (hf : fieldT P t i = some (off, s, g)) (hl : off + s ≤ xs.length) (hs : g = false → s = 1)
    : VOK P o S (if g then .agg ((xs.drop off).take s) else xs.getD off .un) := by
  refine fun E G gs a w hi => ?_
  have h1 := ev_rel hi x hx
  rw [he] at h1
  obtain ⟨cs, hv, hr⟩ := agg_inv h1
  obtain ⟨fs, f, hu, hfi, hoff, hsz, hag⟩ := fieldT_inv hf
  have hlen := hr.length
  cases g with
  | true =>
    refine ⟨.agg ((cs.toList.drop off).take s).toArray, ?_, .agg ((hr.drop0 off).take0 s)⟩
    intro w' hw'
    simp [execOp, ho, hv, Instr.field, run_underlying hu, hfi, asAgg, part, run_isAgg hag, run_sizeOf hsz, hoff]
    apply Array.ext'
    simp [List.extract_eq_take_drop]
  | false =>
    have h1 := hs rfl
    have hlt : off < xs.length := by omega
    obtain ⟨v, hv1, hv2⟩ := hr.get off (xs.getD off .un) (by simp [List.getD_eq_getElem?_getD, List.getElem?_eq_getElem hlt])
    have hv1' : cs[off]? = some v := by simpa using hv1
    refine ⟨v, ?_, by simpa using hv2⟩
    intro w' hw'
    simp [execOp, ho, hv, Instr.field, run_underlying hu, hfi, asAgg, part, run_isAgg hag, hoff, hv1']

theorem VOK_extract {o : Oper} {x : Operand} {i : Nat} {xs : List A} {z : A} (ho : o.op = .extract x i) (hx : okO x = true) (he : ev S x = .tup xs) (hz : xs[i]? = some z)
    : VOK P o S z := by
  refine fun E G gs a w hi => ?_
  have h1 := ev_rel hi x hx
  rw [he] at h1
  obtain ⟨cs, hv, hr⟩ := tup_inv h1
  obtain ⟨v, hv1, hv2⟩ := hr.get i z hz
  have hv1' : cs[i]? = some v := by simpa using hv1
  exact ⟨v, fun w' hw' => by simp [execOp, ho, hv, Instr.extract, hv1'], hv2⟩

theorem VOK_nilCheck_pt {o : Oper} {x : Operand} {r j q : Nat} (ho : o.op = .nilCheck x) (hx : okO x = true) (he : ev S x = .pt r j q)
    : VOK P o S (.pt r j q) := by
  refine fun E G gs a w hi => ?_
  have h1 := ev_rel hi x hx
  rw [he] at h1
  obtain ⟨row, b, hr, hb, hv⟩ := pt_inv h1
  exact ⟨_, fun w' hw' => by simp [execOp, ho, hv], hv ▸ h1⟩
theorem VOK_nilCheck_rp {o : Oper} {x : Operand} {xs : List A} (ho : o.op = .nilCheck x) (hx : okO x = true) (he : ev S x = .rp xs)
    : VOK P o S (.rp xs) := by
  refine fun E G gs a w hi => ?_
  have h1 := ev_rel hi x hx
  rw [he] at h1
  obtain ⟨b, k, cur, e, fr, hv, hh, hg, hl⟩ := rp_inv h1
  exact ⟨_, fun w' hw' => by simp [execOp, ho, hv], hv ▸ h1⟩

/-- A struct put together: cells of the zero value, parts laid over them. -/
def fillA (P : Program) (t : TypeId) : List A → List (Nat × A) → Option (List A)
  | cells, [] => some cells
  | cells, (i, x) :: rest =>
    match fieldT P t i with
    | none => none
    | some (off, s, _) =>
      if x.cells.length ≠ s ∨ off + s > cells.length then none
      else fillA P t (cells.take off ++ x.cells ++ cells.drop (off + s)) rest
theorem fold_set : ∀ (vs : List Value) (k j : Nat) (cs : Array Value), k + j + vs.length ≤ cs.size →
    ((vs.zipIdx j).foldl (fun cs (c, j) => cs.setIfInBounds (k + j) c) cs).toList = cs.toList.take (k + j) ++ vs ++ cs.toList.drop (k + j + vs.length)
  | [], k, j, cs, h => by simp
  | v :: vs, k, j, cs, h => by
    simp only [List.zipIdx_cons, List.foldl_cons]
    rw [fold_set vs k (j + 1) _ (by simp at h ⊢; omega)]
    have e := list_seg_step cs.toList (k + j) v vs (by simp at h ⊢; omega)
    rw [Array.toList_setIfInBounds]
    simpa [Nat.add_assoc] using e
theorem fill_rel {rows : List (Option Row)} {t : TypeId} {fs : Array Field} {places : Array (Nat × Nat)} (hu : P.underlying t = some (.struct fs))
    (hp : ∀ i off s g, fieldT P t i = some (off, s, g) → places[i]? = some (off, s)) : ∀ (parts : List (Nat × A)) (vals : List (Nat × Value)) (cells res : List A) (zs : Array Value),
    vals.map (·.1) = parts.map (·.1) → TRelL w G rows gs (parts.map (·.2)) (vals.map (·.2)) [] → (∀ p ∈ parts, p.2.cells.all okCell = true) → TRelL w G rows gs cells zs.toList [] → fillA P t cells parts = some res →
    ∃ cs, Instr.fill (places[·]?) zs vals = some cs ∧ TRelL w G rows gs res cs.toList []
  | [], [], cells, res, zs, _, _, _, hz, hf => by
    simp only [fillA, Option.some.injEq] at hf
    subst hf
    exact ⟨zs, rfl, hz⟩
  | [], _ :: _, _, _, _, he, _, _, _, _ => by simp at he
  | _ :: _, [], _, _, _, he, _, _, _, _ => by simp at he
  | (i, x) :: parts, (i', v) :: vals, cells, res, zs, he, hrel, hok, hz, hf => by
    simp only [List.map_cons, List.cons.injEq] at he hrel
    obtain ⟨rfl, he⟩ := he
    simp only [fillA] at hf
    split at hf
    · simp at hf
    · rename_i off s g hft
      split at hf
      · simp at hf
      · rename_i hc
        have hc1 : x.cells.length = s := by
          rcases Nat.lt_trichotomy x.cells.length s with h | h | h <;> first | exact h | exact absurd (Or.inl (by omega)) hc
        have hc2 : off + s ≤ cells.length := by
          rcases Nat.lt_or_ge cells.length (off + s) with h | h
          · exact absurd (Or.inr h) hc
          · exact h
        generalize hF : ([] : List Nat) = F at hrel
        cases hrel with
        | cons hx hrest =>
          rename_i F1 F2
          have hF' : F1 = [] ∧ F2 = [] := by simpa using hF.symm
          obtain ⟨rfl, rfl⟩ := hF'
          have hxc := cells_rel hx (hok (i', x) (by simp))
          have hlx : v.cells.size = s := by have := hxc.length; simp at this; omega
          have hlz : zs.size = cells.length := by have := hz.length; simpa using this
          have hpl := hp _ _ _ _ hft
          have hcells : TRelL w G rows gs (cells.take off ++ x.cells ++ cells.drop (off + s)) ((v.cells.zipIdx.foldl (fun cs (c, j) => cs.setIfInBounds (off + j) c) zs).toList) [] := by
            have e := fold_set v.cells.toList off 0 zs (by simp; omega)
            have e2 : (v.cells.zipIdx.foldl (fun cs (c, j) => cs.setIfInBounds (off + j) c) zs) = ((v.cells.toList.zipIdx 0).foldl (fun cs (c, j) => cs.setIfInBounds (off + j) c) zs) := by
              rw [← Array.foldl_toList]; simp
            rw [e2, e]
            refine TRelL.append0 (TRelL.append0 (hz.take0 off) hxc) ?_
            have := hz.drop0 (off + s)
            simpa [hlx] using this
          obtain ⟨cs, h1, h2⟩ := fill_rel hu hp parts vals _ res _ he hrest (fun p hp => hok p (by simp [hp])) hcells hf
          refine ⟨cs, ?_, h2⟩
          simp only [Instr.fill, hpl]
          rw [if_neg (by simp; omega)]
          exact h1

theorem parts_rel (hi : Inv E G gs S a.tmps w) : ∀ (parts : List (Nat × Operand)), (∀ p ∈ parts, okO p.2 = true) →
    TRelL w G S.rows gs ((parts.map fun p => (p.1, ev S p.2)).map (·.2)) ((parts.map fun p => (p.1, a.eval p.2)).map (·.2)) []
  | [], _ => .nil
  | p :: parts, h => .cons (F := []) (Fs := []) (ev_rel hi p.2 (h p (by simp))) (parts_rel hi parts fun q hq => h q (by simp [hq]))
theorem places_of {t : TypeId} {fs : Array Field} {places : List (Nat × Nat)} (hu : P.underlying t = some (.struct fs)) (hm : fs.toList.mapM (fun f => (P.info? f.type).map fun i => (f.offset, i.size)) = some places) :
    ∀ i off s g, fieldT P t i = some (off, s, g) → places.toArray[i]? = some (off, s) := by
  intro i off s g hf
  obtain ⟨fs', f, hu', hfi, hoff, hsz, hag⟩ := fieldT_inv hf
  rw [hu] at hu'
  simp only [Option.some.injEq, TypeDesc.struct.injEq] at hu'
  subst hu'
  have key : ∀ (l : List Field) (places : List (Nat × Nat)), l.mapM (fun f => (P.info? f.type).map fun i => (f.offset, i.size)) = some places → ∀ i : Nat, l[i]? = some f → places[i]? = some (off, s) := by
    intro l
    induction l with
    | nil => intro places h i hi; simp at hi
    | cons f0 l ih =>
      intro places h i hi
      simp only [List.mapM_cons, Option.bind_eq_bind, Option.pure_def] at h
      cases h0 : P.info? f0.type with
      | none => simp [h0] at h
      | some i0 =>
        cases hr : l.mapM (fun f => (P.info? f.type).map fun i => (f.offset, i.size)) with
        | none => simp [h0, hr] at h
        | some rest =>
          simp [h0, hr] at h
          subst h
          cases i with
          | zero =>
            simp at hi
            subst hi
            simp only [szT, h0, Option.map_some, Option.some.injEq] at hsz
            simp [hoff, hsz]
          | succ i => simpa using ih rest hr i (by simpa using hi)
  simpa using key fs.toList places hm i (by simpa using hfi)
/-- All fields' sizes are known. -/
def placesT (P : Program) (t : TypeId) : Bool :=
  match P.underlying t with
  | some (.struct fs) => (fs.toList.mapM (fun f => (P.info? f.type).map fun i => (f.offset, i.size))).isSome
  | _ => false
theorem VOK_build {o : Oper} {t : TypeId} {parts : Array (Nat × Operand)} {z : Array Value} {res : List A} (ho : o.op = .build t parts) (hx : ∀ p ∈ parts.toList, okO p.2 = true)
    (hz : zeroT P t = some (.agg z)) (hzv : okV (.agg z) = true) (hpl : placesT P t = true) (hok : ∀ p ∈ parts.toList, (ev S p.2).cells.all okCell = true)
    (hf : fillA P t (z.toList.map cellA) (parts.toList.map fun p => (p.1, ev S p.2)) = some res) : VOK P o S (.agg res) := by
  refine fun E G gs a w hi => ?_
  unfold placesT at hpl
  split at hpl <;> try simp at hpl
  rename_i fs hu
  obtain ⟨places, hm⟩ := Option.isSome_iff_exists.1 hpl
  have h0 : TRelL w G S.rows gs (z.toList.map cellA) z.toList [] := .of (relL_cells _ hzv)
  obtain ⟨cs, h1, h2⟩ := fill_rel hu (places_of hu hm) _ (parts.toList.map fun p => (p.1, a.eval p.2)) _ res z (by simp [Function.comp_def]) (parts_rel hi parts.toList hx)
    (fun p hp => by obtain ⟨q, hq, rfl⟩ := List.mem_map.1 hp; exact hok q hq) h0 hf
  have hb : P.built t (parts.map fun (i, x) => (i, a.eval x)).toList = some cs := by
    unfold zeroT at hz
    cases hit : P.info? t with
    | none => simp [hit] at hz
    | some it =>
      simp only [hit, Option.bind_some] at hz
      have e : (parts.map fun (i, x) => (i, a.eval x)).toList = parts.toList.map fun p => (p.1, a.eval p.2) := by simp
      rw [e]
      simp only [Program.built, hit, hu, hz, hm]
      exact h1
  refine ⟨.agg cs, ?_, by simpa using TRel.agg h2⟩
  have hr := fun w => run_build (P := P) w t (parts.map fun (i, x) => (i, a.eval x)) cs hb
  intro w' hw'
  simp [execOp, ho, hr]

/-- A byte of a string. -/
theorem VOK_index {o : Oper} {t : TypeId} {x y : Operand} {s : ByteArray} {k : IntKind} {i : Int} {c : UInt8} (ho : o.op = .index t x y) (hx : okO x = true) (hy : okO y = true)
    (h1 : ev S x = .sc (.string s)) (h2 : ev S y = .sc (.int k i)) (ht : isStrT P t = true) (h0 : 0 ≤ i) (hc : (bs s)[i.toNat]? = some c) : VOK P o S (.sc (.int .u8 (c.toNat : Int))) := by
  refine fun E G gs a w hi => ⟨_, ?_, .of (.sc rfl)⟩
  have e1 := ev_rel hi x hx
  have e2 := ev_rel hi y hy
  rw [h1] at e1
  rw [h2] at e2
  have v1 := (sc_inv e1).1
  have v2 := (sc_inv e2).1
  have hu : P.underlying t = some .string := by
    unfold isStrT at ht
    split at ht
    · assumption
    · simp at ht
  have hget : s[i.toNat]? = some c := by
    have hlt : i.toNat < s.size := by
      rcases Nat.lt_or_ge i.toNat (bs s).length with h | h
      · rwa [bs_length] at h
      · rw [List.getElem?_eq_none h] at hc; simp at hc
    rw [getElem?_pos s i.toNat hlt]
    rw [List.getElem?_eq_getElem (by rw [bs_length]; exact hlt)] at hc
    simp only [bs, Array.getElem_toList] at hc
    exact hc
  intro w' hw'
  simp [execOp, ho, v1, v2, Instr.index, run_underlying hu, asIntOf, h0, hget]

def bnd : Option A → Nat → Option Int
  | none, d => some (d : Int)
  | some (.sc (.int _ n)), _ => some n
  | _, _ => none
theorem slice_bounds {rows : List (Option Row)} (lo hi : Option Value) (alo ahi : Option A) {isS : Bool} {len cap : Nat} {l h : Nat}
    (hlo : bnd alo 0 = some (l : Int)) (hhi : bnd ahi len = some (h : Int)) (rlo : ∀ x, alo = some x → ∃ v, lo = some v ∧ TRel w G rows gs x v []) (rlo' : alo = none → lo = none)
    (rhi : ∀ x, ahi = some x → ∃ v, hi = some v ∧ TRel w G rows gs x v []) (rhi' : ahi = none → hi = none) (hlh : l ≤ h) (hhl : h ≤ len) (hcap : len ≤ cap) :
    ∀ w' : World, (Instr.sliceBounds isS len cap lo hi none).run P w' = .ok (l, h, cap) w' := by
  intro w'
  have sb : ∀ (k : IntKind) (n : Nat) (y : Nat) (code : BoundsCode), n ≤ y → (Instr.sliceBound (.int k (n : Int)) y code).run P w' = .ok n w' := by
    intro k n y code hy
    have : ((n : Int) ≤ (y : Int)) := by omega
    simp [Instr.sliceBound, asIntOf, this]
  have hH : (match hi with
      | some v => Instr.sliceBound v cap (if isS then .sliceAcap else .sliceAlen)
      | none => (pure len : Sem Nat)).run P w' = .ok h w' := by
    cases ahi with
    | none =>
      rw [rhi' rfl]
      simp only [bnd, Option.some.injEq] at hhi
      have : len = h := by omega
      simp [this]
    | some x =>
      obtain ⟨v, rfl, hx⟩ := rhi x rfl
      cases x <;> simp [bnd] at hhi
      rename_i u
      cases u <;> simp [bnd] at hhi
      subst hhi
      obtain ⟨rfl, _⟩ := sc_inv hx
      exact sb _ _ _ _ (by omega)
  have hL : (match lo with
      | some v => Instr.sliceBound v h (if (none : Option Value).isSome then .slice3C else .sliceB)
      | none => (pure 0 : Sem Nat)).run P w' = .ok l w' := by
    cases alo with
    | none =>
      rw [rlo' rfl]
      simp only [bnd, Option.some.injEq] at hlo
      have : l = 0 := by omega
      simp [this]
    | some x =>
      obtain ⟨v, rfl, hx⟩ := rlo x rfl
      cases x <;> simp [bnd] at hlo
      rename_i u
      cases u <;> simp [bnd] at hlo
      subst hlo
      obtain ⟨rfl, _⟩ := sc_inv hx
      exact sb _ _ _ _ (by omega)
  unfold Instr.sliceBounds
  cases hi <;> cases lo <;> simp_all
end
end Go.Fw

/- Slicing; making slices; what is on its way into memory. Plain theorems, no condition. -/
set_option linter.unusedVariables false
set_option linter.unusedSimpArgs false
namespace Go.Fw

section
variable {P : Program} {E : Env} {G : Nat → Prop} {gs : Gh} {S : State} {a : Act} {w : World} {tmps : Array Value}

def okOpt : Option Operand → Bool
  | none => true
  | some x => okO x
theorem opt_rel (hi : Inv E G gs S a.tmps w) (x : Option Operand) (hx : okOpt x = true) : (∀ y, x.map (ev S) = some y → ∃ v, x.map a.eval = some v ∧ TRel w G S.rows gs y v []) ∧ (x.map (ev S) = none → x.map a.eval = none) := by
  cases x with
  | none => exact ⟨by simp, by simp⟩
  | some x => exact ⟨fun y hy => ⟨_, rfl, by simp at hy; subst hy; exact ev_rel hi x hx⟩, by simp⟩

theorem VOK_slice_str {o : Oper} {t : TypeId} {x : Operand} {lo hi : Option Operand} {s : ByteArray} {l h : Nat} (ho : o.op = .slice t x lo hi none) (hx : okO x = true) (hlo : okOpt lo = true) (hhi : okOpt hi = true)
    (ht : isStrT P t = true) (he : ev S x = .sc (.string s)) (h1 : bnd (lo.map (ev S)) 0 = some (l : Int)) (h2 : bnd (hi.map (ev S)) (bs s).length = some (h : Int)) (hlh : l ≤ h) (hhl : h ≤ (bs s).length)
    : VOK P o S (.sc (.string (mkS (((bs s).take h).drop l)))) := by
  refine fun E G gs a w hinv => ⟨_, ?_, .of (.sc rfl)⟩
  have e1 := ev_rel hinv x hx
  rw [he] at e1
  have v1 := (sc_inv e1).1
  have hu : P.underlying t = some .string := by
    unfold isStrT at ht
    split at ht
    · assumption
    · simp at ht
  obtain ⟨a1, a2⟩ := opt_rel hinv lo hlo
  obtain ⟨b1, b2⟩ := opt_rel hinv hi hhi
  rw [bs_length] at h2 hhl
  have hb := slice_bounds (P := P) (isS := false) (lo.map a.eval) (hi.map a.eval) _ _ h1 h2 a1 a2 b1 b2 hlh hhl (Nat.le_refl _)
  have e : s.extract l h = mkS (((bs s).take h).drop l) := by
    apply ByteArray.ext
    apply Array.ext'
    simp [mkS, bs, ByteArray.data_extract, List.extract_eq_take_drop, List.drop_take]
  intro w' hw'
  simp [execOp, ho, v1, Instr.sliceAt, run_underlying hu, Instr.slice, hb, e]

theorem VOK_slice_vw {o : Oper} {t e : TypeId} {x : Operand} {lo hi : Option Operand} {r off len : Nat} {row : Row} {l h : Nat} (ho : o.op = .slice t x lo hi none) (hx : okO x = true) (hlo : okOpt lo = true) (hhi : okOpt hi = true)
    (he : ev S x = .vw r off len) (hr : rowAt S.rows r = some row) (ht : elemT P t = some e) (hs : szT P e = some row.n) (h1 : bnd (lo.map (ev S)) 0 = some (l : Int)) (h2 : bnd (hi.map (ev S)) len = some (h : Int)) (hlh : l ≤ h) (hhl : h ≤ len)
    : VOK P o S (.vw r (off + l) (h - l)) := by
  refine fun E G gs a w hinv => ?_
  have e1 := ev_rel hinv x hx
  rw [he] at e1
  obtain ⟨a1, a2⟩ := opt_rel hinv lo hlo
  obtain ⟨b1, b2⟩ := opt_rel hinv hi hhi
  rcases vw_inv e1 with ⟨row', k, cap, cur, et, b, hr', hob, g1, g2, g3, g4, g5, g6, hv⟩ | ⟨row', hr', hob, hx0, rfl, rfl, hv⟩
  case inr =>
    have : l = 0 := by omega
    subst this
    have : h = 0 := by omega
    subst this
    have hb := slice_bounds (P := P) (isS := true) (lo.map a.eval) (hi.map a.eval) _ _ h1 h2 a1 a2 b1 b2 (by omega) (by simp) (cap := 0) (by simp)
    refine ⟨.slice none 0 0, ?_, .vwn hr' hob hx0⟩
    intro w' hw'
    simp [execOp, ho, hv, Instr.sliceAt, run_underlying (elemT_inv ht), Instr.slice, hb, run_sizeOf hs]
  rw [hr] at hr'
  obtain rfl := Option.some.inj hr'
  have hb := slice_bounds (P := P) (isS := true) (lo.map a.eval) (hi.map a.eval) _ _ h1 h2 a1 a2 b1 b2 hlh hhl (cap := cap - off) (by omega)
  have hu := elemT_inv ht
  have hcap : cap - off - l = cap - (off + l) := by omega
  refine ⟨.slice (some ⟨b, if cap - off = l then k else k + l * row.n, none⟩) (h - l) (cap - (off + l)), ?_, .vw hr hob (by omega) g2 g3 g4 g5 ?_⟩
  · intro w' hw'
    simp [execOp, ho, hv, Instr.sliceAt, run_underlying hu, Instr.slice, hb, run_sizeOf hs, hcap]
    split <;> simp [add_none]
  · split
    · rcases Nat.eq_zero_or_pos l with h0 | h0
      · subst h0
        rcases g6 with g6 | g6
        · left; simpa using g6
        · right; omega
      · right; omega
    · rcases g6 with g6 | g6
      · left; rw [g6, Nat.add_mul]
      · right; omega

theorem VOK_slice_sl {o : Oper} {t e : TypeId} {x : Operand} {lo hi : Option Operand} {n : Nat} {xs : List A} {l h : Nat} (ho : o.op = .slice t x lo hi none) (hx : okO x = true) (hlo : okOpt lo = true) (hhi : okOpt hi = true)
    (he : ev S x = .sl false n xs) (ht : elemT P t = some e) (hs : szT P e = some n) (h1 : bnd (lo.map (ev S)) 0 = some (l : Int)) (h2 : bnd (hi.map (ev S)) xs.length = some (h : Int)) (hlh : l ≤ h) (hhl : h ≤ xs.length)
    : VOK P o S (.sl false n ((xs.take h).drop l)) := by
  refine fun E G gs a w hinv => ?_
  have e1 := ev_rel hinv x hx
  rw [he] at e1
  obtain ⟨a1, a2⟩ := opt_rel hinv lo hlo
  obtain ⟨b1, b2⟩ := opt_rel hinv hi hhi
  have hu := elemT_inv ht
  rcases slf_inv e1 with ⟨⟨oa, hv⟩, rfl⟩ | ⟨b, k, cap, cur, et, fr, hv, hh, hg, hw, hrel, hcap, hm⟩
  · simp at hhl
    subst hhl
    have : l = 0 := by omega
    subst this
    have hb := slice_bounds (P := P) (isS := true) (lo.map a.eval) (hi.map a.eval) _ _ h1 h2 a1 a2 b1 b2 (by omega) (by simp) (cap := 0) (by simp)
    simp only [List.length_nil] at hb
    refine ⟨.slice oa 0 0, ?_, .of (by cases oa with | none => simpa using Rel.nils | some ad => simpa using Rel.roz)⟩
    intro w' hw'
    cases oa <;>
    simp [execOp, ho, hv, Instr.sliceAt, run_underlying hu, Instr.slice, hb, run_sizeOf hs]
  · have hb := slice_bounds (P := P) (isS := true) (lo.map a.eval) (hi.map a.eval) _ _ h1 h2 a1 a2 b1 b2 hlh hhl hcap
    have hlen : h - l = ((xs.take h).drop l).length := by simp; omega
    refine ⟨.slice (some ⟨b, if cap = l then k else k + l * n, none⟩) (h - l) (cap - l), ?_, .of (.ro hh hg (fun x hx => hw x (List.mem_of_mem_take (List.mem_of_mem_drop hx))) hlen rfl ?_ (by omega) (by omega))⟩
    · intro w' hw'
      simp [execOp, ho, hv, Instr.sliceAt, run_underlying hu, Instr.slice, hb, run_sizeOf hs]
      split <;> simp [add_none]
    · have h3 := (hrel.take0 (h * n)).drop0 (l * n)
      rw [flat_take h hw, flat_drop l (fun x hx => hw x (List.mem_of_mem_take hx))] at h3
      have hle : h * n ≤ xs.length * n := Nat.mul_le_mul_right _ hhl
      have e4 : List.drop (l * n) (List.take (h * n) (List.take (xs.length * n) (cur.toList.drop k))) = (cur.toList.drop (k + l * n)).take ((h - l) * n) := by
        rw [List.take_take, Nat.min_eq_left hle, List.drop_take, List.drop_drop, ← Nat.sub_mul]
      rw [e4] at h3
      split
      · rename_i hc
        have h0 : h - l = 0 := by omega
        rw [h0] at h3 ⊢
        simpa using h3
      · exact h3
theorem VOK_slice_nil {o : Oper} {t e : TypeId} {x : Operand} {lo hi : Option Operand} {n : Nat} (ho : o.op = .slice t x lo hi none) (hx : okO x = true) (hlo : okOpt lo = true) (hhi : okOpt hi = true)
    (he : ev S x = .nil) (ht : elemT P t = some e) (hs : szT P e = some n) (h1 : bnd (lo.map (ev S)) 0 = some 0) (h2 : bnd (hi.map (ev S)) 0 = some 0)
    : VOK P o S .nil := by
  refine fun E G gs a w hinv => ?_
  have e1 := ev_rel hinv x hx
  rw [he] at e1
  have hv : a.eval x = .slice none 0 0 := by
    generalize a.eval x = u at e1
    cases e1 with | of h => cases h; rfl
  obtain ⟨a1, a2⟩ := opt_rel hinv lo hlo
  obtain ⟨b1, b2⟩ := opt_rel hinv hi hhi
  have hb := slice_bounds (P := P) (isS := true) (l := 0) (h := 0) (len := 0) (cap := 0) (lo.map a.eval) (hi.map a.eval) _ _ h1 h2 a1 a2 b1 b2 (by omega) (by simp) (by simp)
  refine ⟨.slice none 0 0, ?_, .of .nil⟩
  intro w' hw'
  simp [execOp, ho, hv, Instr.sliceAt, run_underlying (elemT_inv ht), Instr.slice, hb, run_sizeOf hs]

/-- make([]T, n). -/
theorem opOK_makeSlice {o : Oper} {K : State → Prop} {t e : TypeId} {x y : Operand} {k k' : IntKind} {n s : Nat} {z : Value} (ho : o.op = .makeSlice t x y) (hx : okO x = true) (hy : okO y = true)
    (h1 : ev S x = .sc (.int k (n : Int))) (h2 : ev S y = .sc (.int k' (n : Int))) (ht : elemT P t = some e) (hs : szT P e = some s) (hz : zeroT P e = some z) (hzv : okV z = true) (hzw : (constA z).width = s) (hsp : 0 < s)
    (hb : bytesT P e * n ≤ 140737488355328) (hm : n ≤ maxLen)
    (hK : K ((S.addRow ⟨s, List.replicate n (constA z), false⟩).put o.dst (.vw S.rows.length 0 n))) : opOK P o S K := by
  refine opOK_row (row := ⟨s, List.replicate n (constA z), false⟩) _ hK fun E G gs a w hi => ?_
  have e1 := ev_rel hi x hx
  have e2 := ev_rel hi y hy
  rw [h1] at e1
  rw [h2] at e2
  have v1 := (sc_inv e1).1
  have v2 := (sc_inv e2).1
  have hu := elemT_inv ht
  unfold szT at hs
  unfold zeroT at hz
  unfold bytesT at hb
  cases hit : P.info? e with
  | none => simp [hit] at hs
  | some it =>
    simp only [hit, Option.map_some, Option.some.injEq] at hs
    simp only [hit, Option.bind_some] at hz
    simp only [hit, Option.map_some, Option.getD_some] at hb
    have hzr : ∀ w' : World, ∀ G', RelL w' G' (constA z).cells z.cells.toList [] := by
      intro w' G'
      have h := rel_constA (w := w') (G := G') hzv
      unfold constA at h ⊢
      split
      · rename_i cs
        simp only at h
        cases h with | agg h => simpa [A.cells, Value.cells] using h
      · rename_i hne
        have hz1 : z.cells = #[z] := by cases z <;> simp_all [Value.cells]
        have hc : (cellA z).cells = [cellA z] := by unfold cellA; split <;> rfl
        rw [hz1, hc]
        refine .cons (F := []) (Fs := []) ?_ .nil
        have : constA z = cellA z := by unfold constA; split <;> simp_all
        split at h <;> simp_all
    have hzl : z.cells.size = s := by have := (hzr w G).length; simp at this; rw [this]; exact hzw
    have hbb : (it.bytes : Int) * (n : Int) ≤ 281474976710656 := by
      have h : ((it.bytes * n : Nat) : Int) ≤ 281474976710656 := by omega
      rwa [Int.natCast_mul] at h
    have hr := run_make (P := P) w t e it z hu hit hz k k' n n (by omega) (by omega) hbb (by simp [maxLen] at hm; omega)
    have hmade : (madeCells z.cells (n * s)).toList = (List.replicate n z.cells.toList).flatten := by
      apply List.ext_getElem?
      intro i
      have hsz : z.cells.toList.length = s := by simpa using hzl
      by_cases hi' : i < n * s
      · have hlen : (List.replicate n z.cells.toList).flatten.length = n * s := by simp [List.length_flatten, hsz]
        have hq : i / s < n := (Nat.div_lt_iff_lt_mul hsp).2 hi'
        have key : ∀ (m : Nat) (j : Nat), j < m * s → (List.replicate m z.cells.toList).flatten[j]? = z.cells.toList[j % s]? := by
          intro m
          induction m with
          | zero => intro j hj; omega
          | succ m ih =>
            intro j hj
            rw [List.replicate_succ, List.flatten_cons]
            by_cases hjs : j < s
            · rw [List.getElem?_append_left (by omega), Nat.mod_eq_of_lt hjs]
            · rw [List.getElem?_append_right (by omega), hsz, ih (j - s) (by rw [Nat.add_mul] at hj; omega), ← Nat.mod_eq_sub_mod (by omega)]
        rw [key n i hi']
        have hmod : i % s < s := Nat.mod_lt _ hsp
        have hmz : i % z.cells.size < z.cells.size := by rw [hzl]; exact hmod
        simp [madeCells, hi', hzl]
        rw [getElem!_pos z.cells (i % s) (by omega)]
        rw [Array.getElem?_eq_getElem (by omega)]
      · rw [List.getElem?_eq_none (by simp [madeCells]; omega), List.getElem?_eq_none (by simp [List.length_flatten, hsz]; omega)]
    have hflat : flat (List.replicate n (constA z)) = (List.replicate n (constA z).cells).flatten := by
      simp [flat, List.flatMap_replicate]
    have hrl : ∀ m : Nat, RelL w G (List.replicate m (constA z).cells).flatten (List.replicate m z.cells.toList).flatten [] := by
      intro m
      induction m with
      | zero => exact .nil
      | succ m ih =>
        rw [List.replicate_succ, List.replicate_succ, List.flatten_cons, List.flatten_cons]
        exact RelL.append (hzr w G) ih
    have hsize : (madeCells z.cells (n * s)).size = n * s := size_madeCells _ _
    have htake : (madeCells z.cells (n * s)).toList.take (n * s) = (List.replicate n z.cells.toList).flatten := by
      rw [List.take_of_length_le (by simp [hsize]), hmade]
    refine ⟨.slice (some ⟨w.heap.size, 0, none⟩) n n, madeCells z.cells (n * s), e, n, ?_, hsize, by simp, hm, ?_, ?_, ?_, ?_⟩
    · simp only [Int.toNat_natCast, hs] at hr
      simp [execOp, ho, v1, v2, hr]
    · intro x hx
      obtain ⟨_, rfl⟩ := List.mem_replicate.1 hx
      exact hzw
    · intro v hv
      simp only [List.length_replicate] at hv
      rw [htake] at hv
      have hz1 : ∀ v ∈ z.cells.toList, cellV v = true := by
        intro v hv
        cases z with
        | agg zs => exact List.all_eq_true.1 hzv v hv
        | tuple zs => simp [okV] at hzv
        | _ => simp only [Value.cells, List.mem_singleton] at hv; subst hv; rfl
      obtain ⟨l, hl, hv⟩ := List.mem_flatten.1 hv
      obtain ⟨_, rfl⟩ := List.mem_replicate.1 hl
      exact hz1 v hv
    · simp only [List.length_replicate]
      rw [htake, hflat]
      exact hrl n
    · exact addRow_vw hsize (by simp) hm n (by simp)
end
end Go.Fw

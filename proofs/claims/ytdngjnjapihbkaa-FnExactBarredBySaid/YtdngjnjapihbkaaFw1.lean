/- Abstract values and what they say of memory: definitions and their first laws. Plain theorems, no condition. -/
import Derived.Laws.AppendOwn
import Derived.Laws.OwnMore
import Derived.Below
import Derived.Deep.Quiet
import Derived.KernelRfl
set_option linter.unusedVariables false
set_option linter.unusedSimpArgs false
namespace Go.Fw

/-- Abstract values: 'sc' a scalar; 'nil' the nil slice; 'sl o n xs' a slice of elements xs, each of n cells (o: held by nobody else);
 'vw r off len' a slice into own row r; 'pt r j o' the address of cell o of element j of own row r; 'rp xs' an address from which the cells xs are read;
 'bx xs' a pointer, held by nobody else, to a variable with the cells xs; 'clo g caps' a function value; 'un' not known. -/
inductive A where
  | un
  | sc (v : Value)
  | nil
  | sl (o : Bool) (n : Nat) (xs : List A)
  | agg (xs : List A)
  | tup (xs : List A)
  | vw (r off len : Nat)
  | pt (r j o : Nat)
  | rp (xs : List A)
  | bx (xs : List A)
  | clo (g : Nat) (caps : List A)
  deriving Inhabited

def A.cells : A → List A
  | .agg xs => xs
  | x => [x]
def A.width (x : A) : Nat := x.cells.length
def flat (xs : List A) : List A := xs.flatMap A.cells

def cellV (v : Value) : Bool := v.oneCell'

/-- The value of a function: with captured values; a number from 1000000 on: with bound values ahead. -/
def mkFn (g : Nat) (cs : List Value) : Value := if g < 1000000 then .func (.func g) #[] cs.toArray else .func (.func (g % 1000000)) cs.toArray #[]
theorem mkFn_cell (g : Nat) (cs : List Value) : cellV (mkFn g cs) = true := by unfold mkFn; split <;> rfl
mutual
/-- What memory says: value v is told by x; the blocks F are held by it alone; all else that is read lies in blocks of G. -/
inductive Rel (w : World) (G : Nat → Prop) : A → Value → List Nat → Prop
  | un {v : Value} (h : cellV v = true) : Rel w G .un v []
  | sc {v : Value} (h : cellV v = true) : Rel w G (.sc v) v []
  | nil : Rel w G .nil (.slice none 0 0) []
  | nils {o : Bool} {n : Nat} : Rel w G (.sl o n []) (.slice none 0 0) []
  | roz {n : Nat} {a : Addr} : Rel w G (.sl false n []) (.slice (some a) 0 0) []
  | ro {n : Nat} {xs : List A} {b k len cap : Nat} {cur : Array Value} {e : TypeId} {fr : Nat × Nat} {cs : List Value}
      (hh : w.heap[b]? = some (.cells cur e fr)) (hg : G b) (hw : ∀ x ∈ xs, x.width = n) (hlen : len = xs.length)
      (hc : cs = (cur.toList.drop k).take (len * n)) (hl : RelL w G (flat xs) cs []) (hcap : len ≤ cap) (hm : cap ≤ maxLen) :
      Rel w G (.sl false n xs) (.slice (some ⟨b, k, none⟩) len cap) []
  | ow {n : Nat} {xs : List A} {b len cap : Nat} {cur : Array Value} {e : TypeId} {cs : List Value} {F : List Nat}
      (hh : w.heap[b]? = some (.cells cur e (0, 0))) (hw : ∀ x ∈ xs, x.width = n) (hlen : len = xs.length)
      (hc : cs = cur.toList.take (len * n)) (hl : RelL w G (flat xs) cs F) (hcap : len ≤ cap) (hm : cap ≤ maxLen) (hs : cur.size = cap * n) (hv : ∀ v ∈ cs, cellV v = true) :
      Rel w G (.sl true n xs) (.slice (some ⟨b, 0, none⟩) len cap) (b :: F)
  | agg {xs : List A} {cs : List Value} {F : List Nat} (hl : RelL w G xs cs F) : Rel w G (.agg xs) (.agg cs.toArray) F
  | tup {xs : List A} {cs : List Value} {F : List Nat} (hl : RelL w G xs cs F) : Rel w G (.tup xs) (.tuple cs.toArray) F
  | rp {xs : List A} {b k : Nat} {cur : Array Value} {e : TypeId} {fr : Nat × Nat} {cs : List Value}
      (hh : w.heap[b]? = some (.cells cur e fr)) (hg : G b) (hc : cs = (cur.toList.drop k).take xs.length) (hl : RelL w G xs cs []) :
      Rel w G (.rp xs) (.pointer (some ⟨b, k, none⟩)) []
  | bx {xs : List A} {b : Nat} {cur : Array Value} {e : TypeId} {F : List Nat}
      (hh : w.heap[b]? = some (.cells cur e (0, 0))) (hl : RelL w G xs cur.toList F) (hv : ∀ v ∈ cur.toList, cellV v = true) : Rel w G (.bx xs) (.pointer (some ⟨b, 0, none⟩)) (b :: F)
  | clo {g : Nat} {caps : List A} {cs : List Value} {F : List Nat} (hl : RelL w G caps cs F) : Rel w G (.clo g caps) (mkFn g cs) F
inductive RelL (w : World) (G : Nat → Prop) : List A → List Value → List Nat → Prop
  | nil : RelL w G [] [] []
  | cons {x : A} {v : Value} {F : List Nat} {xs : List A} {vs : List Value} {Fs : List Nat} (h : Rel w G x v F) (hl : RelL w G xs vs Fs) :
      RelL w G (x :: xs) (v :: vs) (F ++ Fs)
end

theorem RelL.length {w : World} {G : Nat → Prop} : ∀ {xs : List A} {vs : List Value} {F : List Nat}, RelL w G xs vs F → vs.length = xs.length
  | _, _, _, .nil => rfl
  | _, _, _, .cons _ hl => by simp [hl.length]

/-- Memory that is not looked at may turn. -/
theorem Rel.move_ {w w' : World} {G G' : Nat → Prop} : ∀ {x : A} {v : Value} {F : List Nat}, Rel w G x v F →
    (∀ b, G b → G' b ∧ w'.heap[b]? = w.heap[b]?) → (∀ b ∈ F, w'.heap[b]? = w.heap[b]?) → Rel w' G' x v F := by
  intro x v F h
  refine Rel.rec (motive_1 := fun x v F _ => (∀ b, G b → G' b ∧ w'.heap[b]? = w.heap[b]?) → (∀ b ∈ F, w'.heap[b]? = w.heap[b]?) → Rel w' G' x v F)
    (motive_2 := fun xs vs F _ => (∀ b, G b → G' b ∧ w'.heap[b]? = w.heap[b]?) → (∀ b ∈ F, w'.heap[b]? = w.heap[b]?) → RelL w' G' xs vs F)
    ?_ ?_ ?_ ?_ ?_ ?_ ?_ ?_ ?_ ?_ ?_ ?_ ?_ ?_ h
  · intro v h _ _; exact .un h
  · intro v h _ _; exact .sc h
  · intro _ _; exact .nil
  · intro _ _ _ _; exact .nils
  · intro _ _ _ _; exact .roz
  · intro n xs b k len cap cur e fr cs hh hg hw hlen hc hl hcap hm ih h1 h2
    exact .ro (by rw [(h1 b hg).2]; exact hh) (h1 b hg).1 hw hlen hc (ih h1 (by simp)) hcap hm
  · intro n xs b len cap cur e cs F hh hw hlen hc hl hcap hm hs hv ih h1 h2
    exact .ow (by rw [h2 b (by simp)]; exact hh) hw hlen hc (ih h1 fun c hc => h2 c (by simp [hc])) hcap hm hs hv
  · intro xs cs F hl ih h1 h2; exact .agg (ih h1 h2)
  · intro xs cs F hl ih h1 h2; exact .tup (ih h1 h2)
  · intro xs b k cur e fr cs hh hg hc hl ih h1 h2
    exact .rp (by rw [(h1 b hg).2]; exact hh) (h1 b hg).1 hc (ih h1 (by simp))
  · intro xs b cur e F hh hl hv ih h1 h2
    exact .bx (by rw [h2 b (by simp)]; exact hh) (ih h1 fun c hc => h2 c (by simp [hc])) hv
  · intro g caps cs F hl ih h1 h2; exact .clo (ih h1 h2)
  · intro _ _; exact .nil
  · intro x v F xs vs Fs h hl ih ih' h1 h2
    exact .cons (ih h1 fun b hb => h2 b (by simp [hb])) (ih' h1 fun b hb => h2 b (by simp [hb]))

theorem RelL.move_ {w w' : World} {G G' : Nat → Prop} (hG : ∀ b, G b → G' b ∧ w'.heap[b]? = w.heap[b]?) : ∀ {xs : List A} {vs : List Value} {F : List Nat}, RelL w G xs vs F →
    (∀ b ∈ F, w'.heap[b]? = w.heap[b]?) → RelL w' G' xs vs F
  | _, _, _, .nil, _ => .nil
  | _, _, _, .cons h hl, h2 => .cons (h.move_ hG fun b hb => h2 b (by simp [hb])) (hl.move_ hG fun b hb => h2 b (by simp [hb]))

theorem RelL.append {w : World} {G : Nat → Prop} {ys : List A} {us : List Value} {F' : List Nat} :
    ∀ {xs : List A} {vs : List Value} {F : List Nat}, RelL w G xs vs F → RelL w G ys us F' → RelL w G (xs ++ ys) (vs ++ us) (F ++ F')
  | _, _, _, .nil, h' => by simpa using h'
  | _, _, _, .cons (F := F) (Fs := Fs) h hl, h' => by
    have := RelL.cons h (hl.append h')
    simpa [List.append_assoc] using this

/-- A list in two parts. -/
theorem RelL.split {w : World} {G : Nat → Prop} : ∀ {xs ys : List A} {vs : List Value} {F : List Nat}, RelL w G (xs ++ ys) vs F →
    ∃ F1 F2, F = F1 ++ F2 ∧ RelL w G xs (vs.take xs.length) F1 ∧ RelL w G ys (vs.drop xs.length) F2
  | [], ys, vs, F, h => ⟨[], F, rfl, by simpa using RelL.nil, by simpa using h⟩
  | x :: xs, ys, _, _, .cons (F := F) (Fs := Fs) h hl => by
    obtain ⟨F1, F2, rfl, h1, h2⟩ := hl.split (xs := xs)
    exact ⟨F ++ F1, F2, by simp, by simpa using RelL.cons h h1, by simpa using h2⟩

theorem RelL.take_ {w : World} {G : Nat → Prop} {xs : List A} {vs : List Value} {F : List Nat} (h : RelL w G xs vs F) (n : Nat) :
    ∃ F1 F2, F = F1 ++ F2 ∧ RelL w G (xs.take n) (vs.take n) F1 ∧ RelL w G (xs.drop n) (vs.drop n) F2 := by
  have hl := h.length
  rw [← List.take_append_drop n xs] at h
  obtain ⟨F1, F2, e, h1, h2⟩ := h.split
  by_cases hn : n ≤ xs.length
  · rw [List.length_take, Nat.min_eq_left hn] at h1 h2
    exact ⟨F1, F2, e, h1, h2⟩
  · have hn' : xs.length ≤ n := by omega
    rw [List.take_of_length_le hn', List.drop_eq_nil_of_le hn', List.take_of_length_le (by omega), List.drop_eq_nil_of_le (by omega)]
    rw [List.take_of_length_le hn', List.take_of_length_le (by omega)] at h1
    rw [List.drop_eq_nil_of_le hn', List.take_of_length_le hn', List.drop_eq_nil_of_le (by omega)] at h2
    exact ⟨F1, F2, e, h1, h2⟩

/-- Nothing but what is read. -/
theorem RelL.get {w : World} {G : Nat → Prop} : ∀ {xs : List A} {vs : List Value}, RelL w G xs vs [] → ∀ (i : Nat) (x : A), xs[i]? = some x → ∃ v, vs[i]? = some v ∧ Rel w G x v []
  | _, _, h, i, x, hx => by
    generalize hF : ([] : List Nat) = F at h
    cases h with
    | nil => simp at hx
    | cons h hl =>
      rename_i y v F xs vs Fs
      have hF' : F = [] ∧ Fs = [] := by simpa using hF.symm
      obtain ⟨rfl, rfl⟩ := hF'
      cases i with
      | zero => simp at hx; subst hx; exact ⟨_, rfl, h⟩
      | succ i => simpa using hl.get i x (by simpa using hx)
theorem RelL.take0 {w : World} {G : Nat → Prop} {xs : List A} {vs : List Value} (h : RelL w G xs vs []) (n : Nat) : RelL w G (xs.take n) (vs.take n) [] := by
  obtain ⟨F1, F2, e, h1, h2⟩ := h.take_ n
  have : F1 = [] ∧ F2 = [] := by simpa using e.symm
  rw [this.1] at h1
  exact h1
theorem RelL.drop0 {w : World} {G : Nat → Prop} {xs : List A} {vs : List Value} (h : RelL w G xs vs []) (n : Nat) : RelL w G (xs.drop n) (vs.drop n) [] := by
  obtain ⟨F1, F2, e, h1, h2⟩ := h.take_ n
  have : F1 = [] ∧ F2 = [] := by simpa using e.symm
  rw [this.2] at h2
  exact h2

theorem Rel.lt {w : World} {G : Nat → Prop} {x : A} {v : Value} {F : List Nat} (h : Rel w G x v F) : ∀ b ∈ F, b < w.heap.size := by
  refine Rel.rec (motive_1 := fun x v F _ => ∀ b ∈ F, b < w.heap.size) (motive_2 := fun xs vs F _ => ∀ b ∈ F, b < w.heap.size)
    ?_ ?_ ?_ ?_ ?_ ?_ ?_ ?_ ?_ ?_ ?_ ?_ ?_ ?_ h
  · intros; simp_all
  · intros; simp_all
  · intros; simp_all
  · intros; simp_all
  · intros; simp_all
  · intros; simp_all
  · intro n xs b len cap cur e cs F hh hw hlen hc hl hcap hm hs hv ih c hc
    rcases List.mem_cons.1 hc with rfl | hc
    · exact (Array.getElem?_eq_some_iff.1 hh).1
    · exact ih c hc
  · intro xs cs F hl ih; exact ih
  · intro xs cs F hl ih; exact ih
  · intros; simp_all
  · intro xs b cur e F hh hl hv ih c hc
    rcases List.mem_cons.1 hc with rfl | hc
    · exact (Array.getElem?_eq_some_iff.1 hh).1
    · exact ih c hc
  · intro g caps cs F hl ih; exact ih
  · intros; simp_all
  · intro x v F xs vs Fs h hl ih ih' b hb
    rcases List.mem_append.1 hb with hb | hb
    · exact ih b hb
    · exact ih' b hb
theorem RelL.lt {w : World} {G : Nat → Prop} : ∀ {xs : List A} {vs : List Value} {F : List Nat}, RelL w G xs vs F → ∀ b ∈ F, b < w.heap.size
  | _, _, _, .nil, _, hb => by simp at hb
  | _, _, _, .cons h hl, b, hb => by
    rcases List.mem_append.1 hb with hb | hb
    · exact h.lt b hb
    · exact hl.lt b hb

/- Own parts told as read-only ones. -/
mutual
def frz : A → A
  | .sl _ n xs => .sl false n (frzL xs)
  | .agg xs => .agg (frzL xs)
  | .tup xs => .tup (frzL xs)
  | .rp xs => .rp (frzL xs)
  | .bx xs => .rp (frzL xs)
  | .clo g xs => .clo g (frzL xs)
  | .un => .un
  | .sc v => .sc v
  | .nil => .nil
  | .vw r i l => .vw r i l
  | .pt r j o => .pt r j o
def frzL : List A → List A
  | [] => []
  | x :: xs => frz x :: frzL xs
end
theorem frzL_eq : ∀ xs : List A, frzL xs = xs.map frz
  | [] => rfl
  | x :: xs => by rw [frzL, frzL_eq xs]; rfl
theorem frz_sl (o : Bool) (n : Nat) (xs : List A) : frz (.sl o n xs) = .sl false n (xs.map frz) := by rw [frz, frzL_eq]
theorem frz_agg (xs : List A) : frz (.agg xs) = .agg (xs.map frz) := by rw [frz, frzL_eq]
theorem frz_tup (xs : List A) : frz (.tup xs) = .tup (xs.map frz) := by rw [frz, frzL_eq]
theorem frz_rp (xs : List A) : frz (.rp xs) = .rp (xs.map frz) := by rw [frz, frzL_eq]
theorem frz_bx (xs : List A) : frz (.bx xs) = .rp (xs.map frz) := by rw [frz, frzL_eq]
theorem frz_clo (g : Nat) (xs : List A) : frz (.clo g xs) = .clo g (xs.map frz) := by rw [frz, frzL_eq]
theorem frz_sc (v : Value) : frz (.sc v) = .sc v := rfl
theorem frz_nil : frz .nil = .nil := rfl
theorem frz_un : frz .un = .un := rfl
theorem cells_frz (x : A) : (frz x).cells = x.cells.map frz := by
  cases x <;> simp [frz_sl, frz_agg, frz_tup, frz_rp, frz_bx, frz_clo, frz_sc, frz_nil, frz_un, A.cells] <;> rfl
theorem flat_frz (xs : List A) : flat (xs.map frz) = (flat xs).map frz := by
  induction xs with
  | nil => rfl
  | cons x xs ih => simp only [flat, List.map_cons, List.flatMap_cons, List.map_append] at *; rw [ih, cells_frz]
theorem width_frz (x : A) : (frz x).width = x.width := by simp [A.width, cells_frz]

theorem Rel.frz {w : World} {G : Nat → Prop} {x : A} {v : Value} {F : List Nat} (h : Rel w G x v F) {G' : Nat → Prop} (hG : ∀ b, G b → G' b) (hF : ∀ b ∈ F, G' b) : Rel w G' (frz x) v [] := by
  refine Rel.rec (motive_1 := fun x v F _ => (∀ b ∈ F, G' b) → Rel w G' (Fw.frz x) v []) (motive_2 := fun xs vs F _ => (∀ b ∈ F, G' b) → RelL w G' (xs.map Fw.frz) vs [])
    ?_ ?_ ?_ ?_ ?_ ?_ ?_ ?_ ?_ ?_ ?_ ?_ ?_ ?_ h hF
  · intro v h _; rw [frz_un]; exact .un h
  · intro v h _; rw [frz_sc]; exact .sc h
  · intro _; rw [frz_nil]; exact .nil
  · intro _ _ _; rw [frz_sl]; exact .nils
  · intro _ _ _; rw [frz_sl]; exact .roz
  · intro n xs b k len cap cur e fr cs hh hg hw hlen hc hl hcap hm ih _
    rw [frz_sl]
    exact .ro hh (hG b hg) (fun y hy => by obtain ⟨x, hx, rfl⟩ := List.mem_map.1 hy; rw [width_frz]; exact hw x hx) (by simpa using hlen) hc (by rw [flat_frz]; exact ih (by simp)) hcap hm
  · intro n xs b len cap cur e cs F hh hw hlen hc hl hcap hm hs hv ih h2
    rw [frz_sl]
    exact .ro (k := 0) hh (h2 b (by simp)) (fun y hy => by obtain ⟨x, hx, rfl⟩ := List.mem_map.1 hy; rw [width_frz]; exact hw x hx) (by simpa using hlen) (by simpa using hc)
      (by rw [flat_frz]; exact ih fun c hc => h2 c (by simp [hc])) hcap hm
  · intro xs cs F hl ih h2; rw [frz_agg]; exact .agg (ih h2)
  · intro xs cs F hl ih h2; rw [frz_tup]; exact .tup (ih h2)
  · intro xs b k cur e fr cs hh hg hc hl ih h2
    rw [frz_rp]
    exact .rp hh (hG b hg) (by simpa using hc) (ih (by simp))
  · intro xs b cur e F hh hl hv ih h2
    rw [frz_bx]
    have hlen := hl.length
    exact .rp (k := 0) hh (h2 b (by simp)) (by simp; rw [List.take_of_length_le (by omega)]) (ih fun c hc => h2 c (by simp [hc]))
  · intro g caps cs F hl ih h2; rw [frz_clo]; exact .clo (ih h2)
  · intro _; exact .nil
  · intro x v F xs vs Fs h hl ih ih' h2
    have := RelL.cons (ih fun b hb => h2 b (by simp [hb])) (ih' fun b hb => h2 b (by simp [hb]))
    simpa using this

/- Of what is held alone the blocks are apart: asked where it counts. Told anew in any G, if nothing is read-only in it. -/
mutual
def roFree : A → Bool
  | .sl o _ xs => o && roFreeL xs
  | .agg xs => roFreeL xs
  | .tup xs => roFreeL xs
  | .bx xs => roFreeL xs
  | .rp _ => false
  | .clo _ xs => roFreeL xs
  | .un => true
  | .sc _ => true
  | .nil => true
  | .vw _ _ _ => true
  | .pt _ _ _ => true
def roFreeL : List A → Bool
  | [] => true
  | x :: xs => roFree x && roFreeL xs
end
theorem roFreeL_eq : ∀ xs : List A, roFreeL xs = xs.all roFree
  | [] => rfl
  | x :: xs => by rw [roFreeL, roFreeL_eq xs]; rfl
theorem roFree_sl (o : Bool) (n : Nat) (xs : List A) : roFree (.sl o n xs) = (o && xs.all roFree) := by rw [roFree, roFreeL_eq]
theorem roFree_agg (xs : List A) : roFree (.agg xs) = xs.all roFree := by rw [roFree, roFreeL_eq]
theorem roFree_tup (xs : List A) : roFree (.tup xs) = xs.all roFree := by rw [roFree, roFreeL_eq]
theorem roFree_bx (xs : List A) : roFree (.bx xs) = xs.all roFree := by rw [roFree, roFreeL_eq]
theorem roFree_rp (xs : List A) : roFree (.rp xs) = false := rfl
theorem roFree_clo (g : Nat) (xs : List A) : roFree (.clo g xs) = xs.all roFree := by rw [roFree, roFreeL_eq]
theorem roFree_sc (v : Value) : roFree (.sc v) = true := rfl
theorem roFree_nil : roFree .nil = true := rfl
theorem roFree_un : roFree .un = true := rfl
theorem roFree_cells {x : A} (h : roFree x = true) : ∀ y ∈ x.cells, roFree y = true := by
  cases x <;> simp [A.cells] <;> first | exact h | (intro y hy; rw [roFree_agg] at h; exact List.all_eq_true.1 h y hy)
theorem roFree_flat {xs : List A} (h : xs.all roFree = true) : (flat xs).all roFree = true := by
  refine List.all_eq_true.2 fun y hy => ?_
  obtain ⟨x, hx, hy⟩ := List.mem_flatMap.1 hy
  exact roFree_cells (List.all_eq_true.1 h x hx) y hy

theorem Rel.anyG {w : World} {G : Nat → Prop} {x : A} {v : Value} {F : List Nat} (h : Rel w G x v F) (hf : roFree x = true) (G' : Nat → Prop) : Rel w G' x v F := by
  refine Rel.rec (motive_1 := fun x v F _ => roFree x = true → Rel w G' x v F) (motive_2 := fun xs vs F _ => xs.all roFree = true → RelL w G' xs vs F)
    ?_ ?_ ?_ ?_ ?_ ?_ ?_ ?_ ?_ ?_ ?_ ?_ ?_ ?_ h hf
  · intro v h _; exact .un h
  · intro v h _; exact .sc h
  · intro _; exact .nil
  · intro _ _ _; exact .nils
  · intro _ _ _; exact .roz
  · intro n xs b k len cap cur e fr cs hh hg hw hlen hc hl hcap hm ih hf
    simp [roFree_sl] at hf
  · intro n xs b len cap cur e cs F hh hw hlen hc hl hcap hm hs hv ih hf
    rw [roFree_sl, Bool.true_and] at hf
    exact .ow hh hw hlen hc (ih (roFree_flat hf)) hcap hm hs hv
  · intro xs cs F hl ih hf; exact .agg (ih (by rwa [roFree_agg] at hf))
  · intro xs cs F hl ih hf; exact .tup (ih (by rwa [roFree_tup] at hf))
  · intro xs b k cur e fr cs hh hg hc hl ih hf
    simp [roFree_rp] at hf
  · intro xs b cur e F hh hl hv ih hf
    exact .bx hh (ih (by rwa [roFree_bx] at hf)) hv
  · intro g caps cs F hl ih hf; exact .clo (ih (by rwa [roFree_clo] at hf))
  · intro _; exact .nil
  · intro x v F xs vs Fs h hl ih ih' hf
    simp only [List.all_cons, Bool.and_eq_true] at hf
    exact .cons (ih hf.1) (ih' hf.2)
end Go.Fw

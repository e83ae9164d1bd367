/- Abstract values and what they say of memory: definitions and their first laws. Plain theorems, no condition. -/
import Derived.Laws.AppendOwn
import Derived.Laws.OwnMore
import Derived.Below
import Derived.Deep.Quiet
import Derived.KernelRfl
import Derived.Lib.LaidTab
import Derived.Lib.ItoaNum
import Derived.Laws.Strings
import Derived.Laws.Shifts
import Derived.Laws.BytesString
set_option linter.unusedVariables false
set_option linter.unusedSimpArgs false
namespace Go.Fw

/-- Abstract values: 'sc' a scalar; 'nil' the nil slice; 'sl o n xs' a slice of elements xs, each of n cells (o: held by nobody else);
 'vw r off len' a slice into own row r; 'pt r j o' the address of cell o of element j of own row r; 'rp xs' an address from which the cells xs are read;
 'bx xs' a pointer, held by nobody else, to a variable with the cells xs; 'clo g caps' a function value; 'mp r' a map that is own row r; 'rmp es' a map from which the entries es are read; 'al v x' x, which is v; 'un' not known. -/
inductive A where
  | un
  | sc (v : Value)
  | nil
  | sl (o : Bool) (n : Nat) (xs : List A)
  | agg (xs : List A)
  | tup (xs : List A)
  | vw (r off len : Nat)
  | pt (r j o : Nat)
  | rp (xs : List A)
  | bx (xs : List A)
  | clo (g : Nat) (caps : List A)
  | mp (r : Nat)
  | rmp (es : List A)
  | al (v : Value) (x : A)
  deriving Inhabited

def A.cells : A → List A
  | .agg xs => xs
  | x => [x]
def A.width (x : A) : Nat := x.cells.length
def flat (xs : List A) : List A := xs.flatMap A.cells

def cellV (v : Value) : Bool := v.oneCell'

/-- The value of a function: with captured values; a number from 1000000 on: with bound values ahead. -/
def mkFn (g : Nat) (cs : List Value) : Value := if g < 1000000 then .func (.func g) #[] cs.toArray else .func (.func (g % 1000000)) cs.toArray #[]
theorem mkFn_cell (g : Nat) (cs : List Value) : cellV (mkFn g cs) = true := by unfold mkFn; split <;> rfl
/-- A map's entries, key and value by turns. -/
def entV (es : Array MapEntry) : List Value := es.toList.flatMap fun e => [e.key, e.val]
mutual
/-- What memory says: value v is told by x; the blocks F are held by it alone; all else that is read lies in blocks of G. -/
inductive Rel (w : World) (G : Nat → Prop) : A → Value → List Nat → Prop
  | un {v : Value} (h : cellV v = true) : Rel w G .un v []
  | sc {v : Value} (h : cellV v = true) : Rel w G (.sc v) v []
  | nil : Rel w G .nil (.slice none 0 0) []
  | nils {o : Bool} {n : Nat} : Rel w G (.sl o n []) (.slice none 0 0) []
  | roz {n : Nat} {a : Addr} : Rel w G (.sl false n []) (.slice (some a) 0 0) []
  | ro {n : Nat} {xs : List A} {b k len cap : Nat} {cur : Array Value} {e : TypeId} {fr : Nat × Nat} {cs : List Value}
      (hh : w.heap[b]? = some (.cells cur e fr)) (hg : G b) (hw : ∀ x ∈ xs, x.width = n) (hlen : len = xs.length)
      (hc : cs = (cur.toList.drop k).take (len * n)) (hl : RelL w G (flat xs) cs []) (hcap : len ≤ cap) (hm : cap ≤ maxLen) :
      Rel w G (.sl false n xs) (.slice (some ⟨b, k, none⟩) len cap) []
  | ow {n : Nat} {xs : List A} {b len cap : Nat} {cur : Array Value} {e : TypeId} {cs : List Value} {F : List Nat}
      (hh : w.heap[b]? = some (.cells cur e (0, 0))) (hw : ∀ x ∈ xs, x.width = n) (hlen : len = xs.length)
      (hc : cs = cur.toList.take (len * n)) (hl : RelL w G (flat xs) cs F) (hcap : len ≤ cap) (hm : cap ≤ maxLen) (hs : cur.size = cap * n) (hv : ∀ v ∈ cs, cellV v = true) :
      Rel w G (.sl true n xs) (.slice (some ⟨b, 0, none⟩) len cap) (b :: F)
  | agg {xs : List A} {cs : List Value} {F : List Nat} (hl : RelL w G xs cs F) : Rel w G (.agg xs) (.agg cs.toArray) F
  | tup {xs : List A} {cs : List Value} {F : List Nat} (hl : RelL w G xs cs F) : Rel w G (.tup xs) (.tuple cs.toArray) F
  | rp {xs : List A} {b k : Nat} {cur : Array Value} {e : TypeId} {fr : Nat × Nat} {cs : List Value}
      (hh : w.heap[b]? = some (.cells cur e fr)) (hg : G b) (hc : cs = (cur.toList.drop k).take xs.length) (hl : RelL w G xs cs []) :
      Rel w G (.rp xs) (.pointer (some ⟨b, k, none⟩)) []
  | bx {xs : List A} {b : Nat} {cur : Array Value} {e : TypeId} {F : List Nat}
      (hh : w.heap[b]? = some (.cells cur e (0, 0))) (hl : RelL w G xs cur.toList F) (hv : ∀ v ∈ cur.toList, cellV v = true) : Rel w G (.bx xs) (.pointer (some ⟨b, 0, none⟩)) (b :: F)
  | clo {g : Nat} {caps : List A} {cs : List Value} {F : List Nat} (hl : RelL w G caps cs F) : Rel w G (.clo g caps) (mkFn g cs) F
  | rmp {es : List A} {b clock : Nat} {ents : Array MapEntry} (hh : w.heap[b]? = some (.map ents clock)) (hg : G b) (hw : ∀ x ∈ es, x.width = 2) (hl : RelL w G (flat es) (entV ents) []) :
      Rel w G (.rmp es) (.map (some b)) []
inductive RelL (w : World) (G : Nat → Prop) : List A → List Value → List Nat → Prop
  | nil : RelL w G [] [] []
  | cons {x : A} {v : Value} {F : List Nat} {xs : List A} {vs : List Value} {Fs : List Nat} (h : Rel w G x v F) (hl : RelL w G xs vs Fs) :
      RelL w G (x :: xs) (v :: vs) (F ++ Fs)
end

theorem RelL.length {w : World} {G : Nat → Prop} : ∀ {xs : List A} {vs : List Value} {F : List Nat}, RelL w G xs vs F → vs.length = xs.length
  | _, _, _, .nil => rfl
  | _, _, _, .cons _ hl => by simp [hl.length]

/-- Memory that is not looked at may turn. -/
theorem Rel.move_ {w w' : World} {G G' : Nat → Prop} : ∀ {x : A} {v : Value} {F : List Nat}, Rel w G x v F →
    (∀ b, G b → G' b ∧ w'.heap[b]? = w.heap[b]?) → (∀ b ∈ F, w'.heap[b]? = w.heap[b]?) → Rel w' G' x v F := by
  intro x v F h
  refine Rel.rec (motive_1 := fun x v F _ => (∀ b, G b → G' b ∧ w'.heap[b]? = w.heap[b]?) → (∀ b ∈ F, w'.heap[b]? = w.heap[b]?) → Rel w' G' x v F)
    (motive_2 := fun xs vs F _ => (∀ b, G b → G' b ∧ w'.heap[b]? = w.heap[b]?) → (∀ b ∈ F, w'.heap[b]? = w.heap[b]?) → RelL w' G' xs vs F)
    ?_ ?_ ?_ ?_ ?_ ?_ ?_ ?_ ?_ ?_ ?_ ?_ ?_ ?_ ?_ h
  · intro v h _ _; exact .un h
  · intro v h _ _; exact .sc h
  · intro _ _; exact .nil
  · intro _ _ _ _; exact .nils
  · intro _ _ _ _; exact .roz
  · intro n xs b k len cap cur e fr cs hh hg hw hlen hc hl hcap hm ih h1 h2
    exact .ro (by rw [(h1 b hg).2]; exact hh) (h1 b hg).1 hw hlen hc (ih h1 (by simp)) hcap hm
  · intro n xs b len cap cur e cs F hh hw hlen hc hl hcap hm hs hv ih h1 h2
    exact .ow (by rw [h2 b (by simp)]; exact hh) hw hlen hc (ih h1 fun c hc => h2 c (by simp [hc])) hcap hm hs hv
  · intro xs cs F hl ih h1 h2; exact .agg (ih h1 h2)
  · intro xs cs F hl ih h1 h2; exact .tup (ih h1 h2)
  · intro xs b k cur e fr cs hh hg hc hl ih h1 h2
    exact .rp (by rw [(h1 b hg).2]; exact hh) (h1 b hg).1 hc (ih h1 (by simp))
  · intro xs b cur e F hh hl hv ih h1 h2
    exact .bx (by rw [h2 b (by simp)]; exact hh) (ih h1 fun c hc => h2 c (by simp [hc])) hv
  · intro g caps cs F hl ih h1 h2; exact .clo (ih h1 h2)
  · intro es b clock ents hh hg hw hl ih h1 h2; exact .rmp (by rw [(h1 b hg).2]; exact hh) (h1 b hg).1 hw (ih h1 (by simp))
  · intro _ _; exact .nil
  · intro x v F xs vs Fs h hl ih ih' h1 h2
    exact .cons (ih h1 fun b hb => h2 b (by simp [hb])) (ih' h1 fun b hb => h2 b (by simp [hb]))

theorem RelL.move_ {w w' : World} {G G' : Nat → Prop} (hG : ∀ b, G b → G' b ∧ w'.heap[b]? = w.heap[b]?) : ∀ {xs : List A} {vs : List Value} {F : List Nat}, RelL w G xs vs F →
    (∀ b ∈ F, w'.heap[b]? = w.heap[b]?) → RelL w' G' xs vs F
  | _, _, _, .nil, _ => .nil
  | _, _, _, .cons h hl, h2 => .cons (h.move_ hG fun b hb => h2 b (by simp [hb])) (hl.move_ hG fun b hb => h2 b (by simp [hb]))

theorem RelL.append {w : World} {G : Nat → Prop} {ys : List A} {us : List Value} {F' : List Nat} :
    ∀ {xs : List A} {vs : List Value} {F : List Nat}, RelL w G xs vs F → RelL w G ys us F' → RelL w G (xs ++ ys) (vs ++ us) (F ++ F')
  | _, _, _, .nil, h' => by simpa using h'
  | _, _, _, .cons (F := F) (Fs := Fs) h hl, h' => by
    have := RelL.cons h (hl.append h')
    simpa [List.append_assoc] using this

/-- A list in two parts. -/
theorem RelL.split {w : World} {G : Nat → Prop} : ∀ {xs ys : List A} {vs : List Value} {F : List Nat}, RelL w G (xs ++ ys) vs F →
    ∃ F1 F2, F = F1 ++ F2 ∧ RelL w G xs (vs.take xs.length) F1 ∧ RelL w G ys (vs.drop xs.length) F2
  | [], ys, vs, F, h => ⟨[], F, rfl, by simpa using RelL.nil, by simpa using h⟩
  | x :: xs, ys, _, _, .cons (F := F) (Fs := Fs) h hl => by
    obtain ⟨F1, F2, rfl, h1, h2⟩ := hl.split (xs := xs)
    exact ⟨F ++ F1, F2, by simp, by simpa using RelL.cons h h1, by simpa using h2⟩

theorem RelL.take_ {w : World} {G : Nat → Prop} {xs : List A} {vs : List Value} {F : List Nat} (h : RelL w G xs vs F) (n : Nat) :
    ∃ F1 F2, F = F1 ++ F2 ∧ RelL w G (xs.take n) (vs.take n) F1 ∧ RelL w G (xs.drop n) (vs.drop n) F2 := by
  have hl := h.length
  rw [← List.take_append_drop n xs] at h
  obtain ⟨F1, F2, e, h1, h2⟩ := h.split
  by_cases hn : n ≤ xs.length
  · rw [List.length_take, Nat.min_eq_left hn] at h1 h2
    exact ⟨F1, F2, e, h1, h2⟩
  · have hn' : xs.length ≤ n := by omega
    rw [List.take_of_length_le hn', List.drop_eq_nil_of_le hn', List.take_of_length_le (by omega), List.drop_eq_nil_of_le (by omega)]
    rw [List.take_of_length_le hn', List.take_of_length_le (by omega)] at h1
    rw [List.drop_eq_nil_of_le hn', List.take_of_length_le hn', List.drop_eq_nil_of_le (by omega)] at h2
    exact ⟨F1, F2, e, h1, h2⟩

/-- Nothing but what is read. -/
theorem RelL.get {w : World} {G : Nat → Prop} : ∀ {xs : List A} {vs : List Value}, RelL w G xs vs [] → ∀ (i : Nat) (x : A), xs[i]? = some x → ∃ v, vs[i]? = some v ∧ Rel w G x v []
  | _, _, h, i, x, hx => by
    generalize hF : ([] : List Nat) = F at h
    cases h with
    | nil => simp at hx
    | cons h hl =>
      rename_i y v F xs vs Fs
      have hF' : F = [] ∧ Fs = [] := by simpa using hF.symm
      obtain ⟨rfl, rfl⟩ := hF'
      cases i with
      | zero => simp at hx; subst hx; exact ⟨_, rfl, h⟩
      | succ i => simpa using hl.get i x (by simpa using hx)
theorem RelL.take0 {w : World} {G : Nat → Prop} {xs : List A} {vs : List Value} (h : RelL w G xs vs []) (n : Nat) : RelL w G (xs.take n) (vs.take n) [] := by
  obtain ⟨F1, F2, e, h1, h2⟩ := h.take_ n
  have : F1 = [] ∧ F2 = [] := by simpa using e.symm
  rw [this.1] at h1
  exact h1
theorem RelL.drop0 {w : World} {G : Nat → Prop} {xs : List A} {vs : List Value} (h : RelL w G xs vs []) (n : Nat) : RelL w G (xs.drop n) (vs.drop n) [] := by
  obtain ⟨F1, F2, e, h1, h2⟩ := h.take_ n
  have : F1 = [] ∧ F2 = [] := by simpa using e.symm
  rw [this.2] at h2
  exact h2

theorem Rel.lt {w : World} {G : Nat → Prop} {x : A} {v : Value} {F : List Nat} (h : Rel w G x v F) : ∀ b ∈ F, b < w.heap.size := by
  refine Rel.rec (motive_1 := fun x v F _ => ∀ b ∈ F, b < w.heap.size) (motive_2 := fun xs vs F _ => ∀ b ∈ F, b < w.heap.size)
    ?_ ?_ ?_ ?_ ?_ ?_ ?_ ?_ ?_ ?_ ?_ ?_ ?_ ?_ ?_ h
  · intros; simp_all
  · intros; simp_all
  · intros; simp_all
  · intros; simp_all
  · intros; simp_all
  · intros; simp_all
  · intro n xs b len cap cur e cs F hh hw hlen hc hl hcap hm hs hv ih c hc
    rcases List.mem_cons.1 hc with rfl | hc
    · exact (Array.getElem?_eq_some_iff.1 hh).1
    · exact ih c hc
  · intro xs cs F hl ih; exact ih
  · intro xs cs F hl ih; exact ih
  · intros; simp_all
  · intro xs b cur e F hh hl hv ih c hc
    rcases List.mem_cons.1 hc with rfl | hc
    · exact (Array.getElem?_eq_some_iff.1 hh).1
    · exact ih c hc
  · intro g caps cs F hl ih; exact ih
  · intros; simp_all
  · intros; simp_all
  · intro x v F xs vs Fs h hl ih ih' b hb
    rcases List.mem_append.1 hb with hb | hb
    · exact ih b hb
    · exact ih' b hb
theorem RelL.lt {w : World} {G : Nat → Prop} : ∀ {xs : List A} {vs : List Value} {F : List Nat}, RelL w G xs vs F → ∀ b ∈ F, b < w.heap.size
  | _, _, _, .nil, _, hb => by simp at hb
  | _, _, _, .cons h hl, b, hb => by
    rcases List.mem_append.1 hb with hb | hb
    · exact h.lt b hb
    · exact hl.lt b hb

/- Own parts told as read-only ones. -/
mutual
def frz : A → A
  | .sl _ n xs => .sl false n (frzL xs)
  | .agg xs => .agg (frzL xs)
  | .tup xs => .tup (frzL xs)
  | .rp xs => .rp (frzL xs)
  | .bx xs => .rp (frzL xs)
  | .clo g xs => .clo g (frzL xs)
  | .un => .un
  | .sc v => .sc v
  | .nil => .nil
  | .vw r i l => .vw r i l
  | .pt r j o => .pt r j o
  | .mp r => .mp r
  | .rmp es => .rmp (frzL es)
  | .al v x => .al v (frz x)
def frzL : List A → List A
  | [] => []
  | x :: xs => frz x :: frzL xs
end
theorem frzL_eq : ∀ xs : List A, frzL xs = xs.map frz
  | [] => rfl
  | x :: xs => by rw [frzL, frzL_eq xs]; rfl
theorem frz_sl (o : Bool) (n : Nat) (xs : List A) : frz (.sl o n xs) = .sl false n (xs.map frz) := by rw [frz, frzL_eq]
theorem frz_agg (xs : List A) : frz (.agg xs) = .agg (xs.map frz) := by rw [frz, frzL_eq]
theorem frz_tup (xs : List A) : frz (.tup xs) = .tup (xs.map frz) := by rw [frz, frzL_eq]
theorem frz_rp (xs : List A) : frz (.rp xs) = .rp (xs.map frz) := by rw [frz, frzL_eq]
theorem frz_bx (xs : List A) : frz (.bx xs) = .rp (xs.map frz) := by rw [frz, frzL_eq]
theorem frz_clo (g : Nat) (xs : List A) : frz (.clo g xs) = .clo g (xs.map frz) := by rw [frz, frzL_eq]
theorem frz_rmp (es : List A) : frz (.rmp es) = .rmp (es.map frz) := by rw [frz, frzL_eq]
theorem frz_mp (r : Nat) : frz (.mp r) = .mp r := rfl
theorem frz_al (v : Value) (x : A) : frz (.al v x) = .al v (frz x) := by rw [frz]
theorem frz_sc (v : Value) : frz (.sc v) = .sc v := rfl
theorem frz_nil : frz .nil = .nil := rfl
theorem frz_un : frz .un = .un := rfl
theorem cells_frz (x : A) : (frz x).cells = x.cells.map frz := by
  cases x <;> simp [frz_sl, frz_agg, frz_tup, frz_rp, frz_bx, frz_clo, frz_sc, frz_nil, frz_un, frz_rmp, frz_al, frz_mp, A.cells] <;> rfl
theorem flat_frz (xs : List A) : flat (xs.map frz) = (flat xs).map frz := by
  induction xs with
  | nil => rfl
  | cons x xs ih => simp only [flat, List.map_cons, List.flatMap_cons, List.map_append] at *; rw [ih, cells_frz]
theorem width_frz (x : A) : (frz x).width = x.width := by simp [A.width, cells_frz]

theorem Rel.frz {w : World} {G : Nat → Prop} {x : A} {v : Value} {F : List Nat} (h : Rel w G x v F) {G' : Nat → Prop} (hG : ∀ b, G b → G' b) (hF : ∀ b ∈ F, G' b) : Rel w G' (frz x) v [] := by
  refine Rel.rec (motive_1 := fun x v F _ => (∀ b ∈ F, G' b) → Rel w G' (Fw.frz x) v []) (motive_2 := fun xs vs F _ => (∀ b ∈ F, G' b) → RelL w G' (xs.map Fw.frz) vs [])
    ?_ ?_ ?_ ?_ ?_ ?_ ?_ ?_ ?_ ?_ ?_ ?_ ?_ ?_ ?_ h hF
  · intro v h _; rw [frz_un]; exact .un h
  · intro v h _; rw [frz_sc]; exact .sc h
  · intro _; rw [frz_nil]; exact .nil
  · intro _ _ _; rw [frz_sl]; exact .nils
  · intro _ _ _; rw [frz_sl]; exact .roz
  · intro n xs b k len cap cur e fr cs hh hg hw hlen hc hl hcap hm ih _
    rw [frz_sl]
    exact .ro hh (hG b hg) (fun y hy => by obtain ⟨x, hx, rfl⟩ := List.mem_map.1 hy; rw [width_frz]; exact hw x hx) (by simpa using hlen) hc (by rw [flat_frz]; exact ih (by simp)) hcap hm
  · intro n xs b len cap cur e cs F hh hw hlen hc hl hcap hm hs hv ih h2
    rw [frz_sl]
    exact .ro (k := 0) hh (h2 b (by simp)) (fun y hy => by obtain ⟨x, hx, rfl⟩ := List.mem_map.1 hy; rw [width_frz]; exact hw x hx) (by simpa using hlen) (by simpa using hc)
      (by rw [flat_frz]; exact ih fun c hc => h2 c (by simp [hc])) hcap hm
  · intro xs cs F hl ih h2; rw [frz_agg]; exact .agg (ih h2)
  · intro xs cs F hl ih h2; rw [frz_tup]; exact .tup (ih h2)
  · intro xs b k cur e fr cs hh hg hc hl ih h2
    rw [frz_rp]
    exact .rp hh (hG b hg) (by simpa using hc) (ih (by simp))
  · intro xs b cur e F hh hl hv ih h2
    rw [frz_bx]
    have hlen := hl.length
    exact .rp (k := 0) hh (h2 b (by simp)) (by simp; rw [List.take_of_length_le (by omega)]) (ih fun c hc => h2 c (by simp [hc]))
  · intro g caps cs F hl ih h2; rw [frz_clo]; exact .clo (ih h2)
  · intro es b clock ents hh hg hw hl ih _
    rw [frz_rmp]
    exact .rmp hh (hG b hg) (fun y hy => by obtain ⟨x, hx, rfl⟩ := List.mem_map.1 hy; rw [width_frz]; exact hw x hx) (by rw [flat_frz]; exact ih (by simp))
  · intro _; exact .nil
  · intro x v F xs vs Fs h hl ih ih' h2
    have := RelL.cons (ih fun b hb => h2 b (by simp [hb])) (ih' fun b hb => h2 b (by simp [hb]))
    simpa using this

/- Of what is held alone the blocks are apart: asked where it counts. Told anew in any G, if nothing is read-only in it. -/
mutual
def roFree : A → Bool
  | .sl o _ xs => o && roFreeL xs
  | .agg xs => roFreeL xs
  | .tup xs => roFreeL xs
  | .bx xs => roFreeL xs
  | .rp _ => false
  | .clo _ xs => roFreeL xs
  | .un => true
  | .sc _ => true
  | .nil => true
  | .vw _ _ _ => true
  | .pt _ _ _ => true
  | .mp _ => true
  | .rmp _ => false
  | .al _ _ => false
def roFreeL : List A → Bool
  | [] => true
  | x :: xs => roFree x && roFreeL xs
end
theorem roFreeL_eq : ∀ xs : List A, roFreeL xs = xs.all roFree
  | [] => rfl
  | x :: xs => by rw [roFreeL, roFreeL_eq xs]; rfl
theorem roFree_sl (o : Bool) (n : Nat) (xs : List A) : roFree (.sl o n xs) = (o && xs.all roFree) := by rw [roFree, roFreeL_eq]
theorem roFree_agg (xs : List A) : roFree (.agg xs) = xs.all roFree := by rw [roFree, roFreeL_eq]
theorem roFree_tup (xs : List A) : roFree (.tup xs) = xs.all roFree := by rw [roFree, roFreeL_eq]
theorem roFree_bx (xs : List A) : roFree (.bx xs) = xs.all roFree := by rw [roFree, roFreeL_eq]
theorem roFree_rmp (xs : List A) : roFree (.rmp xs) = false := rfl
theorem roFree_rp (xs : List A) : roFree (.rp xs) = false := rfl
theorem roFree_clo (g : Nat) (xs : List A) : roFree (.clo g xs) = xs.all roFree := by rw [roFree, roFreeL_eq]
theorem roFree_cells {x : A} (h : roFree x = true) : ∀ y ∈ x.cells, roFree y = true := by
  cases x <;> simp [A.cells] <;> first | exact h | (intro y hy; rw [roFree_agg] at h; exact List.all_eq_true.1 h y hy)
theorem roFree_flat {xs : List A} (h : xs.all roFree = true) : (flat xs).all roFree = true := by
  refine List.all_eq_true.2 fun y hy => ?_
  obtain ⟨x, hx, hy⟩ := List.mem_flatMap.1 hy
  exact roFree_cells (List.all_eq_true.1 h x hx) y hy

theorem Rel.anyG {w : World} {G : Nat → Prop} {x : A} {v : Value} {F : List Nat} (h : Rel w G x v F) (hf : roFree x = true) (G' : Nat → Prop) : Rel w G' x v F := by
  refine Rel.rec (motive_1 := fun x v F _ => roFree x = true → Rel w G' x v F) (motive_2 := fun xs vs F _ => xs.all roFree = true → RelL w G' xs vs F)
    ?_ ?_ ?_ ?_ ?_ ?_ ?_ ?_ ?_ ?_ ?_ ?_ ?_ ?_ ?_ h hf
  · intro v h _; exact .un h
  · intro v h _; exact .sc h
  · intro _; exact .nil
  · intro _ _ _; exact .nils
  · intro _ _ _; exact .roz
  · intro n xs b k len cap cur e fr cs hh hg hw hlen hc hl hcap hm ih hf
    simp [roFree_sl] at hf
  · intro n xs b len cap cur e cs F hh hw hlen hc hl hcap hm hs hv ih hf
    rw [roFree_sl, Bool.true_and] at hf
    exact .ow hh hw hlen hc (ih (roFree_flat hf)) hcap hm hs hv
  · intro xs cs F hl ih hf; exact .agg (ih (by rwa [roFree_agg] at hf))
  · intro xs cs F hl ih hf; exact .tup (ih (by rwa [roFree_tup] at hf))
  · intro xs b k cur e fr cs hh hg hc hl ih hf
    simp [roFree_rp] at hf
  · intro xs b cur e F hh hl hv ih hf
    exact .bx hh (ih (by rwa [roFree_bx] at hf)) hv
  · intro g caps cs F hl ih hf; exact .clo (ih (by rwa [roFree_clo] at hf))
  · intro es b clock ents hh hg hw hl ih hf; simp [roFree_rmp] at hf
  · intro _; exact .nil
  · intro x v F xs vs Fs h hl ih ih' hf
    simp only [List.all_cons, Bool.and_eq_true] at hf
    exact .cons (ih hf.1) (ih' hf.2)
end Go.Fw

/- Abstract states: temporaries, own rows, and what they say of a frame and a world. Plain theorems, no condition. -/
set_option linter.unusedVariables false
set_option linter.unusedSimpArgs false
namespace Go.Fw

/-- A row of the call's own: elements of n cells each. 'lk': its cells may lead to other own rows. -/
structure Row where
  n : Nat
  xs : List A
  lk : Bool
structure State where
  t : List (Nat × A)
  N : Nat
  rows : List (Option Row)

def lk : List (Nat × A) → Nat → A
  | [], _ => .un
  | (k, x) :: l, i => if k = i then x else lk l i
def rowAt (rows : List (Option Row)) (r : Nat) : Option Row := (rows[r]?).getD none

/-- Of each row: its block (none: the nil slice), and the blocks that its cells alone hold. -/
abbrev Gh := Nat → Option Nat × List Nat
def Gh.all (gs : Gh) (r : Nat) : List Nat := (gs r).1.toList ++ (gs r).2

mutual
/-- What a temporary, or a cell of a row that leads on, says. -/
inductive TRel (w : World) (G : Nat → Prop) (rows : List (Option Row)) (gs : Gh) : A → Value → List Nat → Prop
  | un {v : Value} : TRel w G rows gs .un v []
  | of {x : A} {v : Value} {F : List Nat} (h : Rel w G x v F) : TRel w G rows gs x v F
  | vw {r off len k cap b : Nat} {row : Row} {cur : Array Value} {e : TypeId}
      (hr : rowAt rows r = some row) (hb : (gs r).1 = some b) (hl : off + len ≤ row.xs.length) (hh : w.heap[b]? = some (.cells cur e (0, 0)))
      (hs : cur.size = cap * row.n) (hm : cap ≤ maxLen) (hc : row.xs.length ≤ cap) (hk : k = off * row.n ∨ (cap = off ∧ 0 < off)) :
      TRel w G rows gs (.vw r off len) (.slice (some ⟨b, k, none⟩) len (cap - off)) []
  | vwn {r : Nat} {row : Row} (hr : rowAt rows r = some row) (hb : gs r = (none, [])) (hx : row.xs = []) : TRel w G rows gs (.vw r 0 0) (.slice none 0 0) []
  | pt {r j o k b : Nat} {row : Row} (hr : rowAt rows r = some row) (hb : (gs r).1 = some b) (hk : k = j * row.n + o) : TRel w G rows gs (.pt r j o) (.pointer (some ⟨b, k, none⟩)) []
  | agg {xs : List A} {cs : List Value} {F : List Nat} (hl : TRelL w G rows gs xs cs F) : TRel w G rows gs (.agg xs) (.agg cs.toArray) F
  | tup {xs : List A} {cs : List Value} {F : List Nat} (hl : TRelL w G rows gs xs cs F) : TRel w G rows gs (.tup xs) (.tuple cs.toArray) F
  | clo {g : Nat} {caps : List A} {cs : List Value} {F : List Nat} (hl : TRelL w G rows gs caps cs F) : TRel w G rows gs (.clo g caps) (mkFn g cs) F
  | mp {r b : Nat} {row : Row} (hr : rowAt rows r = some row) (hb : gs r = (none, [b])) : TRel w G rows gs (.mp r) (.map (some b)) []
  | al {x : A} {v : Value} {F : List Nat} (h : TRel w G rows gs x v F) : TRel w G rows gs (.al v x) v F
inductive TRelL (w : World) (G : Nat → Prop) (rows : List (Option Row)) (gs : Gh) : List A → List Value → List Nat → Prop
  | nil : TRelL w G rows gs [] [] []
  | cons {x : A} {v : Value} {F : List Nat} {xs : List A} {vs : List Value} {Fs : List Nat} (h : TRel w G rows gs x v F) (hl : TRelL w G rows gs xs vs Fs) :
      TRelL w G rows gs (x :: xs) (v :: vs) (F ++ Fs)
end

theorem TRelL.length {w : World} {G : Nat → Prop} {rows : List (Option Row)} {gs : Gh} : ∀ {xs : List A} {vs : List Value} {F : List Nat}, TRelL w G rows gs xs vs F → vs.length = xs.length
  | _, _, _, .nil => rfl
  | _, _, _, .cons _ hl => by simp [hl.length]
theorem TRelL.of {w : World} {G : Nat → Prop} {rows : List (Option Row)} {gs : Gh} : ∀ {xs : List A} {vs : List Value} {F : List Nat}, RelL w G xs vs F → TRelL w G rows gs xs vs F
  | _, _, _, .nil => .nil
  | _, _, _, .cons h hl => .cons (.of h) (.of hl)

/-- The cells of a row. -/
def CellsRel (lk : Bool) (w : World) (G : Nat → Prop) (rows : List (Option Row)) (gs : Gh) (xs : List A) (cs : List Value) (F : List Nat) : Prop :=
  if lk then TRelL w G rows gs xs cs F else RelL w G xs cs F

/-- The room of a row: what is no slice's has no more than it shows. -/
structure CapOK (lk : Bool) (len cap : Nat) : Prop where
  le : len ≤ cap
  one : lk = true → cap = len
theorem CapOK.of {len cap : Nat} (h : len ≤ cap) : CapOK false len cap := ⟨h, fun h => by cases h⟩
@[simp] theorem capOK_false {len cap : Nat} : CapOK false len cap ↔ len ≤ cap := ⟨fun h => h.le, .of⟩
structure RowCells (w : World) (G : Nat → Prop) (rows : List (Option Row)) (gs : Gh) (row : Row) (b : Nat) (F : List Nat) : Prop where
  ex : ∃ (cur : Array Value) (e : TypeId) (cap : Nat), w.heap[b]? = some (.cells cur e (0, 0)) ∧ cur.size = cap * row.n ∧ CapOK row.lk row.xs.length cap ∧ cap ≤ maxLen ∧
    (∀ x ∈ row.xs, x.width = row.n) ∧ (∀ v ∈ cur.toList.take (row.xs.length * row.n), cellV v = true) ∧ CellsRel row.lk w G rows gs (flat row.xs) (cur.toList.take (row.xs.length * row.n)) F
/-- A map of the call's own: its entries. -/
structure MapCells (w : World) (G : Nat → Prop) (row : Row) (F : List Nat) : Prop where
  ex : ∃ (b clock : Nat) (ents : Array MapEntry), F = [b] ∧ w.heap[b]? = some (.map ents clock) ∧ row.lk = false ∧ row.n = 2 ∧ (∀ x ∈ row.xs, x.width = 2) ∧ RelL w G (flat row.xs) (entV ents) []
def RowRel (w : World) (G : Nat → Prop) (rows : List (Option Row)) (gs : Gh) (row : Row) (ob : Option Nat) (F : List Nat) : Prop :=
  match ob with
  | some b => RowCells w G rows gs row b F
  | none => (row.xs = [] ∧ F = []) ∨ MapCells w G row F

/-- The library's table of powers of ten, where the program bears it. -/
def tabName : String := "internal/strconv.uint64pow10"
/-- It may be read, and holds what its text lays. -/
def Laid (P : Program) (w : World) (G : Nat → Prop) : Prop := ∀ g, P.globalNamed tabName = some g → G g ∧ Lib.TabIs P w tabName .u64 Lib.pow10Tab
/-- What may be read when a call begins. -/
structure GoodG (P : Program) (w : World) (G : Nat → Prop) : Prop where
  lt : ∀ b, G b → b < w.heap.size
  laid : Laid P w G
instance {P : Program} {w : World} {G : Nat → Prop} : CoeFun (GoodG P w G) fun _ => ∀ b, G b → b < w.heap.size := ⟨GoodG.lt⟩
theorem Laid.move {P : Program} {w w' : World} {G G' : Nat → Prop} (h : Laid P w G) (hG : ∀ b, G b → G' b) (hw : ∀ b, G b → w'.heap[b]? = w.heap[b]?) : Laid P w' G' := fun g hg => by
  obtain ⟨h1, h2⟩ := h g hg
  refine ⟨hG g h1, ?_⟩
  unfold Lib.TabIs World.var? at h2 ⊢
  rw [hg] at h2 ⊢
  simp only [Option.bind_eq_bind, Option.bind_some] at h2 ⊢
  rw [hw g h1]; exact h2
/-- The same later on: what might be read is as it was. -/
theorem GoodG.move {P : Program} {w w' : World} {G G' : Nat → Prop} (h : GoodG P w G) (hG : ∀ b, G b → G' b) (hw : ∀ b, G b → w'.heap[b]? = w.heap[b]?) (hlt : ∀ b, G' b → b < w'.heap.size) : GoodG P w' G' := ⟨hlt, h.laid.move hG hw⟩
theorem GoodG.of_none {P : Program} {w : World} {G : Nat → Prop} (h : P.globalNamed tabName = none) (hlt : ∀ b, G b → b < w.heap.size) : GoodG P w G := ⟨hlt, fun g hg => by rw [h] at hg; cases hg⟩
theorem GoodG.old {P : Program} {w : World} {G : Nat → Prop} (h : GoodG P w G) : GoodG P w (fun b => b < w.heap.size) := ⟨fun _ h => h, h.laid.move h.lt fun _ _ => rfl⟩
/-- The surroundings of a call: the world that it came from, the blocks that may be read then, the blocks that it may turn. -/
structure Env (P : Program) where
  w0 : World
  G0 : Nat → Prop
  Fin : Nat → Prop
  gv : Nat → Value
/-- The temporaries; behind them, values that are kept in mind. -/
def vat {P : Program} (E : Env P) (tmps : Array Value) (i : Nat) : Value := if i < tmps.size then tmps.getD i undef else E.gv i

structure Inv {P : Program} (E : Env P) (G : Nat → Prop) (gs : Gh) (S : State) (tmps : Array Value) (w : World) : Prop where
  keep : ∀ b, b < E.w0.heap.size → ¬ E.Fin b → w.heap[b]? = E.w0.heap[b]?
  os : w.os = E.w0.os
  tape : w.tape = E.w0.tape
  output : w.output = E.w0.output
  size : E.w0.heap.size ≤ w.heap.size
  sz : tmps.size = S.N
  gsub : ∀ b, E.G0 b → G b
  gnew : ∀ b, G b → E.G0 b ∨ E.Fin b ∨ E.w0.heap.size ≤ b
  glt : GoodG P w G
  row : ∀ r row, rowAt S.rows r = some row → RowRel w G S.rows gs row (gs r).1 (gs r).2
  nod : ∀ r row, rowAt S.rows r = some row → (gs.all r).Nodup
  own : ∀ r row, rowAt S.rows r = some row → ∀ b ∈ gs.all r, ¬ G b ∧ (E.Fin b ∨ E.w0.heap.size ≤ b)
  dis : ∀ r r' row row', rowAt S.rows r = some row → rowAt S.rows r' = some row' → r ≠ r' → ∀ b ∈ gs.all r, b ∉ gs.all r'
  tmp : ∀ i, TRel w G S.rows gs (lk S.t i) (vat E tmps i) []

def SInv {P : Program} (E : Env P) (S : State) (a : Act) (w : World) : Prop := a.defers = [] ∧ ∃ G gs, Inv E G gs S a.tmps w

def VC (P : Program) (c : Code) (S : State) (K : Exit → State → Prop) : Prop :=
  ∀ (E : Env P) a w, SInv E S a w → c.wp P (fun e a' w' => ∃ S', SInv E S' a' w' ∧ K e S') a w

section
variable {P : Program} {S : State} {K : Exit → State → Prop}
theorem VC.mono {c : Code} {K' : Exit → State → Prop} (h : VC P c S K) (hk : ∀ e S', K e S' → K' e S') : VC P c S K' :=
  fun E a w hs => wp_mono (h E a w hs) fun e a' w' ⟨S', h1, h2⟩ => ⟨S', h1, hk _ _ h2⟩
theorem VC_skip (h : K .normal S) : VC P .skip S K := fun E a w hs => wp_skip ⟨S, hs, h⟩
theorem VC_exit {id : Nat} (h : K (.exit id) S) : VC P (.exit id) S K := fun E a w hs => wp_exit ⟨S, hs, h⟩
theorem VC_ret (h : K .ret S) : VC P .ret S K := fun E a w hs => wp_ret ⟨S, hs, h⟩
def thenK (next : State → Prop) (K : Exit → State → Prop) : Exit → State → Prop
  | .normal, S => next S
  | e, S => K e S
theorem VC_seq {x y : Code} (h : VC P x S (thenK (fun S' => VC P y S' K) K)) : VC P (.seq x y) S K := by
  intro E a w hs
  refine wp_seq (wp_mono (h E a w hs) ?_)
  intro e a' w' hh
  obtain ⟨S', h1, h2⟩ := hh
  cases e <;> first | exact h2 E a' w' h1 | exact ⟨S', h1, h2⟩
def blockK (id : Nat) (K : Exit → State → Prop) : Exit → State → Prop
  | .exit id', S => if id' = id then K .normal S else K (.exit id') S
  | e, S => K e S
theorem VC_block {id : Nat} {c : Code} (h : VC P c S (blockK id K)) : VC P (.block id c) S K := by
  intro E a w hs
  refine wp_block (wp_mono (h E a w hs) ?_)
  intro e a' w' hh
  obtain ⟨S', h1, h2⟩ := hh
  cases e <;> first | exact ⟨S', h1, h2⟩ | skip
  rename_i id'
  simp only [blockK] at h2
  simp only [Exit.inBlock]
  split <;> rename_i hid
  · rw [if_pos hid] at h2; exact ⟨S', h1, h2⟩
  · rw [if_neg hid] at h2; exact ⟨S', h1, h2⟩
/-- The same but for less known. -/
def Sbs (S S' : State) : Prop := ∀ (P : Program) (E : Env P) a w, SInv E S a w → SInv E S' a w
theorem Sbs.refl (S : State) : Sbs S S := fun _ _ _ _ h => h
theorem VC.sub {c : Code} {S' : State} (h : VC P c S' K) (hs : Sbs S S') : VC P c S K := fun E a w h0 => h E a w (hs P E a w h0)
def subT (t t' : List (Nat × A)) : Prop := ∀ p ∈ t', lk t' p.1 = lk t p.1
theorem lk_of_not_mem : ∀ {t : List (Nat × A)} {i : Nat}, (∀ p ∈ t, p.1 ≠ i) → lk t i = .un
  | [], _, _ => rfl
  | (k, x) :: l, i, h => by
    have h1 : k ≠ i := h (k, x) (by simp)
    simp only [lk, if_neg h1]
    exact lk_of_not_mem fun p hp => h p (by simp [hp])
theorem Sbs.of {t t' : List (Nat × A)} {N : Nat} {rows : List (Option Row)} (h : subT t t') : Sbs ⟨t, N, rows⟩ ⟨t', N, rows⟩ := by
  intro P E a w hs
  obtain ⟨hd, G, gs, hi⟩ := hs
  refine ⟨hd, G, gs, ⟨hi.keep, hi.os, hi.tape, hi.output, hi.size, hi.sz, hi.gsub, hi.gnew, hi.glt, hi.row, hi.nod, hi.own, hi.dis, fun i => ?_⟩⟩
  show TRel w G rows gs (lk t' i) (vat E a.tmps i) []
  by_cases hm : ∃ p ∈ t', p.1 = i
  · obtain ⟨p, hp, rfl⟩ := hm
    rw [h p hp]
    exact hi.tmp p.1
  · rw [lk_of_not_mem fun p hp e => hm ⟨p, hp, e⟩]
    exact .un
/-- A loop: states by an index, a measure that each round lowers. -/
theorem VC_loop {ι : Type} {c : Code} (I : ι → State) (μ : ι → Nat)
    (h : ∀ i, VC P c (I i) (thenK (fun S' => ∃ j, μ j < μ i ∧ Sbs S' (I j)) K)) (i : ι) : VC P (.loop c) (I i) K := by
  intro E a w hs b k cs
  have key : ∀ n i a w, μ i = n → SInv E (I i) a w →
      ∃ e a' w', (∃ S', SInv E S' a' w' ∧ K e S') ∧ Arrives P (lone (b.at a (.code c :: .inLoop c :: k)) cs w) b k cs e a' w' := by
    intro n
    induction n using Nat.strongRecOn with
    | _ n ih =>
      intro i a w hn hI
      obtain ⟨e, a₁, w₁, ⟨S1, hS1, hq⟩, harr⟩ := h i E a w hI b (.inLoop c :: k) cs
      cases e with
      | normal =>
        obtain ⟨j, hlt, hsub⟩ := hq
        obtain ⟨e₂, a₂, w₂, hq₂, harr₂⟩ := ih (μ j) (hn ▸ hlt) j a₁ w₁ rfl (hsub P E a₁ w₁ hS1)
        exact ⟨e₂, a₂, w₂, hq₂, .of_steps (Steps.trans harr (.one step_inLoop)) harr₂⟩
      | exit id => exact ⟨_, a₁, w₁, ⟨S1, hS1, hq⟩, .pass (x := .inLoop c) rfl (fun _ _ => .inl (by simp)) harr⟩
      | goto l => exact ⟨_, a₁, w₁, ⟨S1, hS1, hq⟩, .pass (x := .inLoop c) rfl (fun _ _ => .inl (by simp)) harr⟩
      | ret => exact ⟨_, a₁, w₁, ⟨S1, hS1, hq⟩, .pass (x := .inLoop c) rfl (fun _ _ => .inl (by simp)) harr⟩
      | panic ch => exact ⟨_, a₁, w₁, ⟨S1, hS1, hq⟩, .pass (x := .inLoop c) rfl (fun _ _ => .inl (by simp)) harr⟩
      | outgrown => exact ⟨_, a₁, w₁, ⟨S1, hS1, hq⟩, .pass (x := .inLoop c) rfl (fun _ _ => .inl (by simp)) harr⟩
  obtain ⟨e, a', w', hq, harr⟩ := key _ i a w rfl hs
  exact ⟨e, a', w', hq, .of_steps (.one step_loop) harr⟩
end
end Go.Fw

/- How what is told of temporaries and rows is carried over a step. Plain theorems, no condition. -/
set_option linter.unusedVariables false
set_option linter.unusedSimpArgs false
namespace Go.Fw

/- What led into row r is no more known. -/
mutual
def kill (r : Nat) : A → A
  | .vw r' off len => if r' = r then .un else .vw r' off len
  | .pt r' j o => if r' = r then .un else .pt r' j o
  | .agg xs => .agg (killL r xs)
  | .tup xs => .tup (killL r xs)
  | .clo g xs => .clo g (killL r xs)
  | .un => .un
  | .sc v => .sc v
  | .nil => .nil
  | .sl o n xs => .sl o n xs
  | .rp xs => .rp xs
  | .bx xs => .bx xs
  | .mp r' => if r' = r then .un else .mp r'
  | .rmp xs => .rmp xs
  | .al v x => .al v (kill r x)
def killL (r : Nat) : List A → List A
  | [] => []
  | x :: xs => kill r x :: killL r xs
end
theorem killL_eq (r : Nat) : ∀ xs : List A, killL r xs = xs.map (kill r)
  | [] => rfl
  | x :: xs => by rw [killL, killL_eq r xs]; rfl
theorem kill_vw (r r' off len : Nat) : kill r (.vw r' off len) = if r' = r then .un else .vw r' off len := rfl
theorem kill_pt (r r' j o : Nat) : kill r (.pt r' j o) = if r' = r then .un else .pt r' j o := rfl
theorem kill_agg (r : Nat) (xs : List A) : kill r (.agg xs) = .agg (xs.map (kill r)) := by rw [kill, killL_eq]
theorem kill_tup (r : Nat) (xs : List A) : kill r (.tup xs) = .tup (xs.map (kill r)) := by rw [kill, killL_eq]
theorem kill_clo (r g : Nat) (xs : List A) : kill r (.clo g xs) = .clo g (xs.map (kill r)) := by rw [kill, killL_eq]
theorem kill_sc (r : Nat) (v : Value) : kill r (.sc v) = .sc v := rfl
theorem kill_nil (r : Nat) : kill r .nil = .nil := rfl
theorem kill_un (r : Nat) : kill r .un = .un := rfl
theorem kill_sl (r : Nat) (o : Bool) (n : Nat) (xs : List A) : kill r (.sl o n xs) = .sl o n xs := rfl
theorem kill_rp (r : Nat) (xs : List A) : kill r (.rp xs) = .rp xs := rfl
theorem kill_bx (r : Nat) (xs : List A) : kill r (.bx xs) = .bx xs := rfl
theorem kill_mp (r r' : Nat) : kill r (.mp r') = if r' = r then .un else .mp r' := rfl
theorem kill_rmp (r : Nat) (xs : List A) : kill r (.rmp xs) = .rmp xs := rfl
theorem kill_al (r : Nat) (v : Value) (x : A) : kill r (.al v x) = .al v (kill r x) := by rw [kill]

/-- Plain data are left alone. -/
theorem Rel.kill {w : World} {G : Nat → Prop} {x : A} {v : Value} {F : List Nat} (h : Rel w G x v F) (r : Nat) : Fw.kill r x = x := by
  refine Rel.rec (motive_1 := fun x v F _ => Fw.kill r x = x) (motive_2 := fun xs vs F _ => xs.map (Fw.kill r) = xs)
    ?_ ?_ ?_ ?_ ?_ ?_ ?_ ?_ ?_ ?_ ?_ ?_ ?_ ?_ ?_ h
  · intros; exact kill_un r
  · intros; exact kill_sc r _
  · intros; exact kill_nil r
  · intros; exact kill_sl ..
  · intros; exact kill_sl ..
  · intros; exact kill_sl ..
  · intros; exact kill_sl ..
  · intro xs cs F hl ih; rw [kill_agg, ih]
  · intro xs cs F hl ih; rw [kill_tup, ih]
  · intros; exact kill_rp ..
  · intros; exact kill_bx ..
  · intro g caps cs F hl ih; rw [kill_clo, ih]
  · intros; exact kill_rmp ..
  · rfl
  · intro x v F xs vs Fs h hl ih ih'; rw [List.map_cons, ih, ih']

/-- Row r stands as it stood, as far as those ask that lead into it. -/
structure RowLe (w w' : World) (rows rows' : List (Option Row)) (gs gs' : Gh) (r : Nat) : Prop where
  le : ∀ row, rowAt rows r = some row → ∃ row', rowAt rows' r = some row' ∧ (gs' r).1 = (gs r).1 ∧ row'.n = row.n ∧ row'.xs.length = row.xs.length ∧
    ∀ b cur e, (gs r).1 = some b → w.heap[b]? = some (.cells cur e (0, 0)) → ∃ cur' e', w'.heap[b]? = some (.cells cur' e' (0, 0)) ∧ cur'.size = cur.size
  nn : ∀ row, rowAt rows r = some row → (gs r).1 = none → gs' r = gs r

theorem TRel.step {w w' : World} {G G' : Nat → Prop} {rows rows' : List (Option Row)} {gs gs' : Gh} {x : A} {v : Value} {F : List Nat}
    (h : TRel w G rows gs x v F) (hG : ∀ b, G b → G' b ∧ w'.heap[b]? = w.heap[b]?) (hR : ∀ r, RowLe w w' rows rows' gs gs' r) (hF : ∀ b ∈ F, w'.heap[b]? = w.heap[b]?) :
    TRel w' G' rows' gs' x v F := by
  refine TRel.rec (motive_1 := fun x v F _ => (∀ b ∈ F, w'.heap[b]? = w.heap[b]?) → TRel w' G' rows' gs' x v F)
    (motive_2 := fun xs vs F _ => (∀ b ∈ F, w'.heap[b]? = w.heap[b]?) → TRelL w' G' rows' gs' xs vs F) ?_ ?_ ?_ ?_ ?_ ?_ ?_ ?_ ?_ ?_ ?_ ?_ h hF
  · intros; exact .un
  · intro x v F h hF; exact .of (h.move_ hG hF)
  · intro r off len k cap b row cur e hr hob hl hh hs hm hc hk _
    obtain ⟨row', hr', hg, hn, hx, hb⟩ := (hR r).le row hr
    obtain ⟨cur', e', hh', hs'⟩ := hb b cur e hob hh
    exact .vw hr' (by rw [hg]; exact hob) (by omega) hh' (by rw [hs', hs, hn]) hm (by omega) (by rw [hn]; exact hk)
  · intro r row hr hob hxs _
    obtain ⟨row', hr', hg, hn, hx, hb⟩ := (hR r).le row hr
    exact .vwn hr' (by rw [(hR r).nn row hr (by rw [hob])]; exact hob) (by rw [hxs] at hx; exact List.eq_nil_of_length_eq_zero hx)
  · intro r j o k b row hr hob hk _
    obtain ⟨row', hr', hg, hn, hx, hb⟩ := (hR r).le row hr
    exact .pt hr' (by rw [hg]; exact hob) (by rw [hn]; exact hk)
  · intro xs cs F hl ih hF; exact .agg (ih hF)
  · intro xs cs F hl ih hF; exact .tup (ih hF)
  · intro g caps cs F hl ih hF; exact .clo (ih hF)
  · intro r b row hr hob _
    obtain ⟨row', hr', hg, hn, hx, hb⟩ := (hR r).le row hr
    exact .mp hr' (by rw [(hR r).nn row hr (by rw [hob])]; exact hob)
  · intro x v F h ih hF; exact .al (ih hF)
  · intro _; exact .nil
  · intro x v F xs vs Fs h hl ih ih' hF
    exact .cons (ih fun b hb => hF b (by simp [hb])) (ih' fun b hb => hF b (by simp [hb]))
theorem TRelL.step {w w' : World} {G G' : Nat → Prop} {rows rows' : List (Option Row)} {gs gs' : Gh}
    (hG : ∀ b, G b → G' b ∧ w'.heap[b]? = w.heap[b]?) (hR : ∀ r, RowLe w w' rows rows' gs gs' r) : ∀ {xs : List A} {vs : List Value} {F : List Nat},
    TRelL w G rows gs xs vs F → (∀ b ∈ F, w'.heap[b]? = w.heap[b]?) → TRelL w' G' rows' gs' xs vs F
  | _, _, _, .nil, _ => .nil
  | _, _, _, .cons h hl, hF => .cons (h.step hG hR fun b hb => hF b (by simp [hb])) (hl.step hG hR fun b hb => hF b (by simp [hb]))

/-- The same where row k may have turned: what leads into it is forgotten. -/
theorem TRel.stepK {w w' : World} {G G' : Nat → Prop} {rows rows' : List (Option Row)} {gs gs' : Gh} {x : A} {v : Value} {F : List Nat} (q : Nat)
    (h : TRel w G rows gs x v F) (hG : ∀ b, G b → G' b ∧ w'.heap[b]? = w.heap[b]?) (hR : ∀ r, r ≠ q → RowLe w w' rows rows' gs gs' r) (hF : ∀ b ∈ F, w'.heap[b]? = w.heap[b]?) :
    TRel w' G' rows' gs' (kill q x) v F := by
  refine TRel.rec (motive_1 := fun x v F _ => (∀ b ∈ F, w'.heap[b]? = w.heap[b]?) → TRel w' G' rows' gs' (kill q x) v F)
    (motive_2 := fun xs vs F _ => (∀ b ∈ F, w'.heap[b]? = w.heap[b]?) → TRelL w' G' rows' gs' (xs.map (kill q)) vs F) ?_ ?_ ?_ ?_ ?_ ?_ ?_ ?_ ?_ ?_ ?_ ?_ h hF
  · intros; rw [kill_un]; exact .un
  · intro x v F h hF; rw [h.kill q]; exact .of (h.move_ hG hF)
  · intro r off len k cap b row cur e hr hob hl hh hs hm hc hk _
    rw [kill_vw]
    split
    · exact .un
    · rename_i hne
      obtain ⟨row', hr', hg, hn, hx, hb⟩ := (hR r hne).le row hr
      obtain ⟨cur', e', hh', hs'⟩ := hb b cur e hob hh
      exact .vw hr' (by rw [hg]; exact hob) (by omega) hh' (by rw [hs', hs, hn]) hm (by omega) (by rw [hn]; exact hk)
  · intro r row hr hob hxs _
    rw [kill_vw]
    split
    · exact .un
    · rename_i hne
      obtain ⟨row', hr', hg, hn, hx, hb⟩ := (hR r hne).le row hr
      exact .vwn hr' (by rw [(hR r hne).nn row hr (by rw [hob])]; exact hob) (by rw [hxs] at hx; exact List.eq_nil_of_length_eq_zero hx)
  · intro r j o k b row hr hob hk _
    rw [kill_pt]
    split
    · exact .un
    · rename_i hne
      obtain ⟨row', hr', hg, hn, hx, hb⟩ := (hR r hne).le row hr
      exact .pt hr' (by rw [hg]; exact hob) (by rw [hn]; exact hk)
  · intro xs cs F hl ih hF; rw [kill_agg]; exact .agg (ih hF)
  · intro xs cs F hl ih hF; rw [kill_tup]; exact .tup (ih hF)
  · intro g caps cs F hl ih hF; rw [kill_clo]; exact .clo (ih hF)
  · intro r b row hr hob _
    rw [kill_mp]
    split
    · exact .un
    · rename_i hne
      obtain ⟨row', hr', hg, hn, hx, hb⟩ := (hR r hne).le row hr
      exact .mp hr' (by rw [(hR r hne).nn row hr (by rw [hob])]; exact hob)
  · intro x v F h ih hF; rw [kill_al]; exact .al (ih hF)
  · intro _; exact .nil
  · intro x v F xs vs Fs h hl ih ih' hF
    exact .cons (ih fun b hb => hF b (by simp [hb])) (ih' fun b hb => hF b (by simp [hb]))
theorem TRelL.stepK {w w' : World} {G G' : Nat → Prop} {rows rows' : List (Option Row)} {gs gs' : Gh} (q : Nat)
    (hG : ∀ b, G b → G' b ∧ w'.heap[b]? = w.heap[b]?) (hR : ∀ r, r ≠ q → RowLe w w' rows rows' gs gs' r) : ∀ {xs : List A} {vs : List Value} {F : List Nat},
    TRelL w G rows gs xs vs F → (∀ b ∈ F, w'.heap[b]? = w.heap[b]?) → TRelL w' G' rows' gs' (xs.map (kill q)) vs F
  | _, _, _, .nil, _ => .nil
  | _, _, _, .cons h hl, hF => .cons (h.stepK q hG hR fun b hb => hF b (by simp [hb])) (hl.stepK q hG hR fun b hb => hF b (by simp [hb]))

def killT (r : Nat) (t : List (Nat × A)) : List (Nat × A) := t.map fun p => (p.1, kill r p.2)
theorem lk_killT (r : Nat) : ∀ (t : List (Nat × A)) (i : Nat), lk (killT r t) i = kill r (lk t i)
  | [], i => (kill_un r).symm
  | (k, x) :: l, i => by
    have ih := lk_killT r l i
    simp only [killT] at ih
    simp only [killT, List.map_cons, lk]
    split
    · rfl
    · exact ih
/-- In rows: only in those that lead on. -/
def killRow (r : Nat) (row : Row) : Row := if row.lk then { row with xs := row.xs.map (kill r) } else row
def killRows (r : Nat) (rows : List (Option Row)) : List (Option Row) := rows.map (Option.map (killRow r))
theorem kill_cells (r : Nat) (x : A) : (kill r x).cells = x.cells.map (kill r) := by
  cases x <;> simp only [kill_sl, kill_agg, kill_tup, kill_rp, kill_bx, kill_clo, kill_sc, kill_nil, kill_un, kill_vw, kill_pt, kill_mp, kill_rmp, kill_al, A.cells, List.map_cons, List.map_nil]
  · split <;> split <;> simp_all
  · split <;> split <;> simp_all
  · split <;> split <;> simp_all
theorem kill_width (r : Nat) (x : A) : (kill r x).width = x.width := by simp [A.width, kill_cells]
theorem kill_flat (r : Nat) (xs : List A) : flat (xs.map (kill r)) = (flat xs).map (kill r) := by
  induction xs with
  | nil => rfl
  | cons x xs ih => simp only [flat, List.map_cons, List.flatMap_cons, List.map_append] at *; rw [ih, kill_cells]
theorem rowAt_killRows (r : Nat) (rows : List (Option Row)) (i : Nat) : rowAt (killRows r rows) i = (rowAt rows i).map (killRow r) := by
  simp only [rowAt, killRows, List.getElem?_map]
  cases h : rows[i]? with
  | none => rfl
  | some o => cases o <;> rfl
theorem killRow_n (r : Nat) (row : Row) : (killRow r row).n = row.n := by unfold killRow; split <;> rfl
theorem killRow_len (r : Nat) (row : Row) : (killRow r row).xs.length = row.xs.length := by unfold killRow; split <;> simp
theorem MapCells.step {w w' : World} {G G' : Nat → Prop} {row : Row} {F : List Nat} (h : MapCells w G row F) (hG : ∀ b, G b → G' b ∧ w'.heap[b]? = w.heap[b]?) (hF : ∀ c ∈ F, w'.heap[c]? = w.heap[c]?) : MapCells w' G' row F := by
  obtain ⟨b, cl, es, rfl, h1, h2, h3, h4, h5⟩ := h.ex
  exact ⟨b, cl, es, rfl, by rw [hF b (by simp)]; exact h1, h2, h3, h4, h5.move_ hG (by simp)⟩
theorem MapCells.kill {w : World} {G : Nat → Prop} {row : Row} {F : List Nat} {q : Nat} (h : MapCells w G row F) : MapCells w G (killRow q row) F := by
  obtain ⟨b, cl, es, rfl, h1, h2, h3, h4, h5⟩ := h.ex
  have e : killRow q row = row := by unfold killRow; rw [if_neg (by simp [h2])]
  rw [e]; exact h
/-- A row carried over a step. -/
theorem RowRel.step {w w' : World} {G G' : Nat → Prop} {rows rows' : List (Option Row)} {gs gs' : Gh} {row : Row} {ob : Option Nat} {F : List Nat}
    (h : RowRel w G rows gs row ob F) (hG : ∀ b, G b → G' b ∧ w'.heap[b]? = w.heap[b]?) (hR : ∀ r, RowLe w w' rows rows' gs gs' r) (hF : ∀ c ∈ ob.toList ++ F, w'.heap[c]? = w.heap[c]?) :
    RowRel w' G' rows' gs' row ob F := by
  cases ob with
  | none => exact h.imp id fun h => h.step hG hF
  | some b =>
    obtain ⟨cur, e, cap, h1, h2, h3, h4, h5, h6, h7⟩ := h.ex
    refine ⟨cur, e, cap, by rw [hF b (by simp)]; exact h1, h2, h3, h4, h5, h6, ?_⟩
    have hF' : ∀ c ∈ F, w'.heap[c]? = w.heap[c]? := fun c hc => hF c (by simp [hc])
    unfold CellsRel at *
    split
    · rename_i hl; rw [if_pos hl] at h7; exact h7.step hG hR hF'
    · rename_i hl; rw [if_neg hl] at h7; exact h7.move_ hG hF'
theorem RowRel.stepK {w w' : World} {G G' : Nat → Prop} {rows rows' : List (Option Row)} {gs gs' : Gh} {row : Row} {ob : Option Nat} {F : List Nat} (q : Nat)
    (h : RowRel w G rows gs row ob F) (hG : ∀ b, G b → G' b ∧ w'.heap[b]? = w.heap[b]?) (hR : ∀ r, r ≠ q → RowLe w w' rows rows' gs gs' r) (hF : ∀ c ∈ ob.toList ++ F, w'.heap[c]? = w.heap[c]?) :
    RowRel w' G' rows' gs' (killRow q row) ob F := by
  cases ob with
  | none =>
    rcases h with ⟨h1, h2⟩ | h
    · refine .inl ⟨?_, h2⟩
      unfold killRow
      split <;> simp [h1]
    · exact .inr (h.kill.step hG hF)
  | some b =>
    obtain ⟨cur, e, cap, h1, h2, h3, h4, h5, h6, h7⟩ := h.ex
    have hF' : ∀ c ∈ F, w'.heap[c]? = w.heap[c]? := fun c hc => hF c (by simp [hc])
    have hb : w'.heap[b]? = w.heap[b]? := hF b (by simp)
    unfold CellsRel at h7
    by_cases hl : row.lk = true
    · have e1 : killRow q row = { row with xs := row.xs.map (kill q) } := by unfold killRow; rw [if_pos hl]
      rw [e1]
      refine ⟨cur, e, cap, by rw [hb]; exact h1, h2, by simpa using h3, h4, ?_, by simpa using h6, ?_⟩
      · intro x hx
        obtain ⟨y, hy, rfl⟩ := List.mem_map.1 hx
        rw [kill_width]; exact h5 y hy
      · unfold CellsRel
        rw [if_pos hl] at h7
        show if row.lk = true then _ else _
        rw [if_pos hl, kill_flat]
        simpa using h7.stepK q hG hR hF'
    · have e1 : killRow q row = row := by unfold killRow; rw [if_neg hl]
      rw [e1]
      refine ⟨cur, e, cap, by rw [hb]; exact h1, h2, h3, h4, h5, h6, ?_⟩
      unfold CellsRel
      rw [if_neg hl] at h7 ⊢
      exact h7.move_ hG hF'
end Go.Fw

/- Operations that leave memory alone: what they do to an abstract state. Plain theorems, no condition. -/
set_option linter.unusedVariables false
set_option linter.unusedSimpArgs false
namespace Go.Fw

def szT (P : Program) (t : TypeId) : Option Nat := (P.info? t).map (·.size)
def zeroT (P : Program) (t : TypeId) : Option Value := (P.info? t).bind (·.zero)
def bytesT (P : Program) (t : TypeId) : Nat := ((P.info? t).map (·.bytes)).getD 0
def elemT (P : Program) (t : TypeId) : Option TypeId := match P.underlying t with | some (.slice e) => some e | _ => none
def aggD : TypeDesc → Bool
  | .struct _ => true
  | .array _ _ => true
  | _ => false
def aggT (P : Program) (t : TypeId) : Option Bool := (P.underlying t).map aggD
/-- Field i of a struct type: where it begins, its cells, is it a struct. -/
def fieldT (P : Program) (t : TypeId) (i : Nat) : Option (Nat × Nat × Bool) :=
  match P.underlying t with
  | some (.struct fs) => match fs[i]? with
    | some f => match szT P f.type, aggT P f.type with
      | some s, some g => some (f.offset, s, g)
      | _, _ => none
    | none => none
  | _ => none
def kindT (P : Program) (t : TypeId) : Option IntKind := match P.underlying t with | some (.int k) => some k | _ => none
def isStrT (P : Program) (t : TypeId) : Bool := match P.underlying t with | some .string => true | _ => false
def isBoolT (P : Program) (t : TypeId) : Bool := match P.underlying t with | some .bool => true | _ => false

/-- A string by its bytes, and its bytes. -/
def mkS (l : List UInt8) : ByteArray := ⟨l.toArray⟩
def bs (s : ByteArray) : List UInt8 := s.data.toList
theorem mkS_bs (s : ByteArray) : mkS (bs s) = s := rfl
theorem bs_length (s : ByteArray) : (bs s).length = s.size := Array.length_toList
theorem toList_bs (s : ByteArray) : s.toList = bs s := ByteArray.toList_eq s
def cellA : Value → A
  | .slice none 0 0 => .nil
  | .string s => .sc (.string (mkS (bs s)))
  | v => .sc v
def constA : Value → A
  | .agg cs => .agg (cs.toList.map cellA)
  | v => cellA v
def okV : Value → Bool
  | .agg cs => cs.toList.all cellV
  | .tuple _ => false
  | _ => true
def ev (S : State) : Operand → A
  | .tmp i => if i < S.N then lk S.t i else .un
  | .const v => if okV v then constA v else .un
  | .func f => if f < 1000000 then .clo f [] else .un
  | .global _ => .un
def State.put (S : State) (d : Option Nat) (x : A) : State :=
  match d with
  | none => S
  | some d => if d < S.N then { S with t := (d, x) :: S.t } else S

theorem rel_cellA {w : World} {G : Nat → Prop} {v : Value} (h : cellV v = true) : Rel w G (cellA v) v [] := by
  unfold cellA
  split
  · exact .nil
  · exact .sc h
  · exact .sc h
theorem relL_cells {w : World} {G : Nat → Prop} : ∀ (cs : List Value), cs.all cellV = true → RelL w G (cs.map cellA) cs []
  | [], _ => .nil
  | v :: cs, h => by
    simp only [List.all_cons, Bool.and_eq_true] at h
    exact .cons (F := []) (rel_cellA h.1) (relL_cells cs h.2)
theorem rel_constA {w : World} {G : Nat → Prop} {v : Value} (h : okV v = true) : Rel w G (constA v) v [] := by
  unfold constA
  split
  · rename_i cs
    have := relL_cells (w := w) (G := G) cs.toList h
    simpa using Rel.agg this
  · rename_i hne
    refine rel_cellA ?_
    cases v <;> simp_all [okV, cellV, Value.oneCell']

section
variable {P : Program} {E : Env P} {G : Nat → Prop} {gs : Gh} {S : State} {a : Act} {w : World}

theorem Inv.vat_tmp {tmps : Array Value} (h : Inv E G gs S tmps w) {i : Nat} (hi : i < S.N) : vat E tmps i = tmps.getD i undef := by
  unfold vat
  rw [if_pos (by rw [h.sz]; exact hi)]
/-- The operands that mean something. -/
def okO : Operand → Bool := fun _ => true
theorem ev_rel (h : Inv E G gs S a.tmps w) (x : Operand) (hx : okO x = true) : TRel w G S.rows gs (ev S x) (a.eval x) [] := by
  cases x with
  | tmp i =>
    show TRel w G S.rows gs (if i < S.N then lk S.t i else .un) (a.tmps.getD i undef) []
    split
    · rename_i hi
      have := h.tmp i
      rwa [h.vat_tmp hi] at this
    · exact .un
  | const v =>
    show TRel w G S.rows gs (if okV v then constA v else .un) v []
    split
    · rename_i h; exact .of (rel_constA h)
    · exact .un
  | global g => exact .un
  | func f =>
    show TRel w G S.rows gs (if f < 1000000 then .clo f [] else .un) (.func (.func f) #[] #[]) []
    split
    · rename_i h
      have := TRel.of (rows := S.rows) (gs := gs) (Rel.clo (w := w) (G := G) (g := f) (caps := []) (cs := []) .nil)
      unfold mkFn at this
      rw [if_pos h] at this
      exact this
    · exact .un

theorem put_size (d : Option Nat) (v : Value) : (a.put d v).tmps.size = a.tmps.size := by cases d <;> simp [Act.put]
theorem put_defers (d : Option Nat) (v : Value) : (a.put d v).defers = a.defers := by cases d <;> rfl
theorem Inv.put (h : Inv E G gs S a.tmps w) {x : A} {v : Value} (hx : TRel w G S.rows gs x v []) (d : Option Nat) : Inv E G gs (S.put d x) (a.put d v).tmps w := by
  cases d with
  | none => exact h
  | some d =>
    unfold State.put
    dsimp only
    split
    · rename_i hd
      refine ⟨h.keep, h.os, h.tape, h.output, h.size, by rw [put_size]; exact h.sz, h.gsub, h.gnew, h.glt, h.row, h.nod, h.own, h.dis, fun i => ?_⟩
      show TRel w G S.rows gs (lk ((d, x) :: S.t) i) _ []
      simp only [lk]
      have hs : d < a.tmps.size := by rw [h.sz]; exact hd
      split
      · rename_i hi
        subst hi
        have : vat E (a.put (some d) v).tmps d = v := by simp [vat, Act.put, Array.getD_eq_getD_getElem?, hs]
        rw [this]; exact hx
      · rename_i hi
        have : vat E (a.put (some d) v).tmps i = vat E a.tmps i := by simp [vat, Act.put, Array.getD_eq_getD_getElem?, Array.getElem?_setIfInBounds, hi]
        rw [this]; exact h.tmp i
    · rename_i hd
      have : (a.put (some d) v).tmps = a.tmps := by
        have hs : ¬ d < a.tmps.size := by rw [h.sz]; exact hd
        simp only [Act.put]
        exact Array.setIfInBounds_eq_of_size_le (by omega)
      rw [this]; exact h

def opOK (P : Program) (o : Oper) (S : State) (K : State → Prop) : Prop :=
  ∀ (E : Env P) a w (next : Act → World → Prop) (Q : Exit → Act → World → Prop), SInv E S a w → (∀ S' a' w', K S' → SInv E S' a' w' → next a' w') → o.wp P a w next Q

/-- The operation yields a value told by x, the same one however memory has grown. -/
def VOK (P : Program) (o : Oper) (S : State) (x : A) : Prop :=
  ∀ (E : Env P) (G : Nat → Prop) (gs : Gh) (a : Act) (w : World), Inv E G gs S a.tmps w →
    ∃ v, (∀ w', Go.RowKit.Below w.heap.size w w' → (execOp a.eval o).run P w' = .ok (.value v) w') ∧ TRel w G S.rows gs x v []
theorem keep_at {w' : World} {b : Nat} {ob : Obj} (hb : Go.RowKit.Below w.heap.size w w') (h : w.heap[b]? = some ob) : w'.heap[b]? = some ob := by
  rw [hb.block b (Array.getElem?_eq_some_iff.1 h).1]; exact h
theorem opOK_value {o : Oper} {K : State → Prop} (x : A) (hK : K (S.put o.dst x))
    (h : ∀ (E : Env P) (G : Nat → Prop) (gs : Gh) (a : Act) (w : World), Inv E G gs S a.tmps w → ∃ v, (execOp a.eval o).run P w = .ok (.value v) w ∧ TRel w G S.rows gs x v []) : opOK P o S K := by
  intro E a w next Q hs hn
  obtain ⟨hd, G, gs, hi⟩ := hs
  obtain ⟨v, hr, hx⟩ := h E G gs a w hi
  unfold Oper.wp
  rw [hr]
  exact hn _ _ _ hK ⟨by rw [put_defers]; exact hd, G, gs, hi.put hx o.dst⟩

theorem opOK_of {o : Oper} {K : State → Prop} {x : A} (h : VOK P o S x) (hK : K (S.put o.dst x)) : opOK P o S K :=
  opOK_value x hK fun E G gs a w hi => by
    obtain ⟨v, h1, h2⟩ := h E G gs a w hi
    exact ⟨v, h1 w (Go.RowKit.Below.refl _ _), h2⟩

def pickA (b : Bool) : A → A → A
  | .sc (.bool p), .sc (.bool q) => .sc (.bool (if b then p else q))
  | x, y => if b then x else y
theorem pick_rel {rows : List (Option Row)} {b : Bool} {x y : A} {u v : Value} (hx : b = true → TRel w G rows gs x u []) (hy : b = false → TRel w G rows gs y v []) :
    TRel w G rows gs (pickA b x y) (if b then u else v) [] := by
  cases b with
  | true =>
    have := hx rfl
    unfold pickA
    split <;> simpa using this
  | false =>
    have := hy rfl
    unfold pickA
    split <;> simpa using this
theorem sc_inv {rows : List (Option Row)} {v u : Value} {F : List Nat} (h : TRel w G rows gs (.sc v) u F) : u = v ∧ cellV v = true := by
  cases h with
  | of h => cases h with | sc h => exact ⟨rfl, h⟩
theorem agg_inv {rows : List (Option Row)} {xs : List A} {u : Value} {F : List Nat} (h : TRel w G rows gs (.agg xs) u F) : ∃ cs, u = .agg cs ∧ TRelL w G rows gs xs cs.toList F := by
  cases h with
  | of h => cases h with | agg h => exact ⟨_, rfl, by simpa using TRelL.of h⟩
  | agg h => exact ⟨_, rfl, by simpa using h⟩
theorem tup_inv {rows : List (Option Row)} {xs : List A} {u : Value} {F : List Nat} (h : TRel w G rows gs (.tup xs) u F) : ∃ cs, u = .tuple cs ∧ TRelL w G rows gs xs cs.toList F := by
  cases h with
  | of h => cases h with | tup h => exact ⟨_, rfl, by simpa using TRelL.of h⟩
  | tup h => exact ⟨_, rfl, by simpa using h⟩
theorem TRelL.get {rows : List (Option Row)} : ∀ {xs : List A} {vs : List Value}, TRelL w G rows gs xs vs [] → ∀ (i : Nat) (x : A), xs[i]? = some x → ∃ v, vs[i]? = some v ∧ TRel w G rows gs x v []
  | _, _, h, i, x, hx => by
    generalize hF : ([] : List Nat) = F at h
    cases h with
    | nil => simp at hx
    | cons h hl =>
      rename_i y v F xs vs Fs
      have hF' : F = [] ∧ Fs = [] := by simpa using hF.symm
      obtain ⟨rfl, rfl⟩ := hF'
      cases i with
      | zero => simp at hx; subst hx; exact ⟨_, rfl, h⟩
      | succ i => simpa using hl.get i x (by simpa using hx)
theorem TRelL.take0 {rows : List (Option Row)} : ∀ {xs : List A} {vs : List Value} (n : Nat), TRelL w G rows gs xs vs [] → TRelL w G rows gs (xs.take n) (vs.take n) []
  | xs, vs, 0, h => by simpa using TRelL.nil
  | xs, vs, n + 1, h => by
    generalize hF : ([] : List Nat) = F at h
    cases h with
    | nil => rw [← hF]; simpa using TRelL.nil
    | cons h hl =>
      rename_i y v F xs vs Fs
      have hF' : F = [] ∧ Fs = [] := by simpa using hF.symm
      obtain ⟨rfl, rfl⟩ := hF'
      simpa using TRelL.cons h (hl.take0 n)
theorem TRelL.drop0 {rows : List (Option Row)} : ∀ {xs : List A} {vs : List Value} (n : Nat), TRelL w G rows gs xs vs [] → TRelL w G rows gs (xs.drop n) (vs.drop n) []
  | xs, vs, 0, h => by simpa using h
  | xs, vs, n + 1, h => by
    generalize hF : ([] : List Nat) = F at h
    cases h with
    | nil => rw [← hF]; simpa using TRelL.nil
    | cons h hl =>
      rename_i y v F xs vs Fs
      have hF' : F = [] ∧ Fs = [] := by simpa using hF.symm
      obtain ⟨rfl, rfl⟩ := hF'
      simpa using hl.drop0 n
theorem TRelL.append0 {rows : List (Option Row)} {ys : List A} {us : List Value} :
    ∀ {xs : List A} {vs : List Value}, TRelL w G rows gs xs vs [] → TRelL w G rows gs ys us [] → TRelL w G rows gs (xs ++ ys) (vs ++ us) []
  | xs, vs, h, h' => by
    generalize hF : ([] : List Nat) = F at h
    cases h with
    | nil => rw [← hF]; simpa using h'
    | cons h hl =>
      rename_i y v F xs vs Fs
      have hF' : F = [] ∧ Fs = [] := by simpa using hF.symm
      obtain ⟨rfl, rfl⟩ := hF'
      simpa using TRelL.cons h (hl.append0 h')

theorem VOK_move {o : Oper} {x : Operand} (ho : o.op = .move x ∨ o.op = .assign x) (hx : okO x = true) : VOK P o S (ev S x) :=
  fun E G gs a w hi => ⟨a.eval x, fun w' hw' => by rcases ho with h | h <;> simp [execOp, h], ev_rel hi x hx⟩
theorem VOK_pick {o : Oper} {c x y : Operand} {b : Bool} (ho : o.op = .pick c x y) (hx : okO x = true) (hy : okO y = true) (hc : ev S c = .sc (.bool b)) (hco : okO c = true)
    : VOK P o S (pickA b (ev S x) (ev S y)) := by
  refine fun E G gs a w hi => ⟨if b then a.eval x else a.eval y, ?_, ?_⟩
  · have hb := ev_rel hi c hco
    rw [hc] at hb
    have hv := (sc_inv hb).1
    intro w' hw'
    simp [execOp, ho, hv, asBool]
  · exact pick_rel (fun _ => ev_rel hi x hx) (fun _ => ev_rel hi y hy)

def unS : UnOp → Value → Option Value
  | .not, .bool b => some (.bool !b)
  | .neg, .int k n => some (.int k (k.wrap (0 - n)))
  | _, _ => none
theorem VOK_unOp {o : Oper} {op : UnOp} {t : TypeId} {x : Operand} {u v : Value} (ho : o.op = .unOp op t x) (hx : okO x = true) (he : ev S x = .sc u) (hu : unS op u = some v)
    : VOK P o S (.sc v) := by
  refine fun E G gs a w hi => ⟨v, ?_, ?_⟩
  · have hb := ev_rel hi x hx
    rw [he] at hb
    have hv := (sc_inv hb).1
    intro w' hw'
    cases op <;> cases u <;> simp [unS] at hu <;> subst hu <;> simp [execOp, ho, hv, Op.unary, Op.intArith]
  · cases op <;> cases u <;> simp [unS] at hu <;> subst hu <;> exact .of (.sc rfl)

/-- Operators on scalars: what must hold, and what comes out. -/
def binS (P : Program) (op : BinOp) (t : TypeId) : Value → Value → Prop × Value
  | .int k x, .int k' y =>
    match op with
    | .add => (k = k', .int k (k.wrap (x + y)))
    | .sub => (k = k', .int k (k.wrap (x - y)))
    | .mul => (k = k', .int k (k.wrap (x * y)))
    | .quo => (k = k' ∧ y ≠ 0, .int k (k.wrap (x.tdiv y)))
    | .rem => (k = k' ∧ y ≠ 0, .int k (x.tmod y))
    | .and => (k = k', .int k (bits .and k x y))
    | .or => (k = k', .int k (bits .or k x y))
    | .xor => (k = k', .int k (bits .xor k x y))
    | .andNot => (k = k', .int k (bits .andNot k x y))
    | .shl => (0 ≤ y ∧ y ≤ k.bits, .int k (k.wrap (x * 2 ^ y.toNat)))
    | .shr => (0 ≤ y ∧ y ≤ k.bits, .int k (x / 2 ^ y.toNat))
    | .eql => (k = k', .bool (x == y))
    | .neq => (k = k', .bool (x != y))
    | .lss => (k = k', .bool (decide (x < y)))
    | .leq => (k = k', .bool (decide (x ≤ y)))
    | .gtr => (k = k', .bool (decide (x > y)))
    | .geq => (k = k', .bool (decide (x ≥ y)))
  | .string x, .string y =>
    match op with
    | .add => ((((bs x).length + (bs y).length : Nat) : Int) ≤ 9223372036854775807, .string (mkS (bs x ++ bs y)))
    | .eql => (True, .bool (bs x == bs y))
    | .neq => (True, .bool (bs x != bs y))
    | .lss => (True, .bool (Op.bytesLess (bs x) (bs y)))
    | .leq => (True, .bool (Op.bytesLess (bs x) (bs y) || bs x == bs y))
    | .gtr => (True, .bool !(Op.bytesLess (bs x) (bs y) || bs x == bs y))
    | .geq => (True, .bool !(Op.bytesLess (bs x) (bs y)))
    | _ => (False, .bool false)
  | .bool x, .bool y =>
    match op with
    | .eql => (isBoolT P t = true, .bool (x == y))
    | .neq => (isBoolT P t = true, .bool (x != y))
    | _ => (False, .bool false)
  | _, _ => (False, .bool false)
theorem binS_run {op : BinOp} {t : TypeId} {u v : Value} (h : (binS P op t u v).1) (x y : Operand) (w : World) :
    (do eqGuard op t x y u v; binOp op t u v : Sem Value).run P w = .ok (binS P op t u v).2 w ∧ cellV (binS P op t u v).2 = true := by
  cases u <;> cases v <;> try exact h.elim
  case int.int k a k' b =>
    cases op <;> simp only [binS] at h <;> first | (obtain ⟨rfl, h0⟩ := h) | (obtain rfl := h) | skip
    all_goals try (simp [binS, binOp, eqGuard, Op.intArith, Op.intDiv, Op.intBits, Op.intCmp, bits, cellV, Value.oneCell', *]; done)
    · refine ⟨?_, rfl⟩
      simp [binS, eqGuard, binOp_shl, shift_shl _ _ _ _ h.1 h.2]
    · refine ⟨?_, rfl⟩
      simp [binS, eqGuard, binOp_shr, shift_shr _ _ _ _ h.1 h.2]
  case string.string a b =>
    cases op <;> try exact h.elim
    all_goals try (simp [binS, binOp, eqGuard, Op.stringOp, toList_bs, cellV, Value.oneCell', bne]; done)
    simp only [binS, bs_length] at h
    have h' : ¬ (9223372036854775807 < ((a.size : Int) + (b.size : Int))) := by omega
    have e : mkS (bs a ++ bs b) = a ++ b := by
      apply ByteArray.ext
      simp [mkS, bs]
    simp [binS, binOp, eqGuard, Op.stringOp, h', e, cellV, Value.oneCell']
  case bool.bool a b =>
    have hb : P.underlying t = some .bool := by
      cases op <;> try exact h.elim
      all_goals
        simp only [binS, isBoolT] at h
        split at h
        · assumption
        · simp at h
    have he : (Op.equal t (.bool a) (.bool b)).run P w = .ok (a == b) w := by
      have key : ∀ d, (Op.equalIn (d + 1) t (.bool a) (.bool b)).run P w = .ok (a == b) w := fun d => by
        simp only [Op.equalIn, Sem.run_bind, run_underlying hb, Result.andThen_ok]
        simp
      exact key 9999
    cases op <;> try exact h.elim
    all_goals refine ⟨?_, rfl⟩
    · show (do eqGuard .eql t x y (.bool a) (.bool b); (do pure (.bool (← Op.equal t (.bool a) (.bool b))) : Sem Value) : Sem Value).run P w = _
      simp only [eqGuard_at_bool, Sem.run_bind, Sem.run_pure, Result.andThen_ok, he]
      rfl
    · show (do eqGuard .neq t x y (.bool a) (.bool b); (do pure (.bool (!(← Op.equal t (.bool a) (.bool b)))) : Sem Value) : Sem Value).run P w = _
      simp only [eqGuard_at_bool, Sem.run_bind, Sem.run_pure, Result.andThen_ok, he]
      rfl
theorem VOK_binOp {o : Oper} {op : BinOp} {t t' : TypeId} {x y : Operand} {u v : Value} (ho : o.op = .binOp op t x y t') (hx : okO x = true) (hy : okO y = true)
    (h1 : ev S x = .sc u) (h2 : ev S y = .sc v) (h : (binS P op t u v).1) : VOK P o S (.sc (binS P op t u v).2) := by
  refine fun E G gs a w hi => ?_
  have e1 := ev_rel hi x hx
  have e2 := ev_rel hi y hy
  rw [h1] at e1
  rw [h2] at e2
  have v1 := (sc_inv e1).1
  have v2 := (sc_inv e2).1
  refine ⟨_, fun w' hw' => ?_, .of (.sc (binS_run h x y w).2)⟩
  have hr := (binS_run h x y w').1
  simp only [execOp, ho, v1, v2, Sem.run_bind] at hr ⊢
  rw [hr]
  rfl
end
end Go.Fw

/- Operations that read memory or compute with structs. Plain theorems, no condition. -/
set_option linter.unusedVariables false
set_option linter.unusedSimpArgs false
namespace Go.Fw

theorem flat_cons (x : A) (xs : List A) : flat (x :: xs) = x.cells ++ flat xs := by simp [flat]
theorem flat_append (xs ys : List A) : flat (xs ++ ys) = flat xs ++ flat ys := by simp [flat]
theorem flat_length {n : Nat} : ∀ {xs : List A}, (∀ x ∈ xs, x.width = n) → (flat xs).length = xs.length * n
  | [], _ => by simp [flat]
  | x :: xs, h => by
    rw [flat_cons, List.length_append, flat_length (xs := xs) fun y hy => h y (by simp [hy])]
    have := h x (by simp)
    unfold A.width at this
    rw [this, List.length_cons, Nat.add_mul]
    omega
theorem flat_drop {n : Nat} : ∀ {xs : List A} (j : Nat), (∀ x ∈ xs, x.width = n) → (flat xs).drop (j * n) = flat (xs.drop j)
  | xs, 0, _ => by simp
  | [], j + 1, _ => by simp [flat]
  | x :: xs, j + 1, h => by
    have hx := h x (by simp)
    unfold A.width at hx
    rw [flat_cons, List.drop_succ_cons, show (j + 1) * n = n + j * n by rw [Nat.add_mul]; omega, ← List.drop_drop, ← hx, List.drop_left, hx]
    exact flat_drop (xs := xs) j fun y hy => h y (by simp [hy])
theorem flat_take {n : Nat} : ∀ {xs : List A} (j : Nat), (∀ x ∈ xs, x.width = n) → (flat xs).take (j * n) = flat (xs.take j)
  | xs, 0, _ => by simp [flat]
  | [], j + 1, _ => by simp [flat]
  | x :: xs, j + 1, h => by
    have hx := h x (by simp)
    unfold A.width at hx
    rw [flat_cons, List.take_succ_cons, flat_cons, show (j + 1) * n = x.cells.length + j * n by rw [Nat.add_mul, hx]; omega, List.take_length_add_append]
    rw [flat_take (xs := xs) j fun y hy => h y (by simp [hy])]
/-- The cells of one element. -/
theorem flat_seg {n : Nat} {xs : List A} (h : ∀ x ∈ xs, x.width = n) {j : Nat} {x : A} (hx : xs[j]? = some x) (o s : Nat) (hs : o + s ≤ n) :
    ((flat xs).drop (j * n + o)).take s = (x.cells.drop o).take s := by
  have hj : j < xs.length := by
    rcases Nat.lt_or_ge j xs.length with h | h
    · exact h
    · rw [List.getElem?_eq_none h] at hx; simp at hx
  have hd : xs.drop j = x :: xs.drop (j + 1) := by
    rw [List.drop_eq_getElem_cons hj]
    rw [List.getElem?_eq_getElem hj] at hx
    simp only [Option.some.injEq] at hx
    rw [hx]
  have hw := h x (List.mem_of_getElem? hx)
  unfold A.width at hw
  rw [← List.drop_drop, flat_drop j h, hd, flat_cons, List.drop_append_of_le_length (by omega), List.take_append_of_le_length (by simp; omega)]

/- Nothing in it is held alone. -/
mutual
def noOwn : A → Bool
  | .sl o _ _ => !o
  | .bx _ => false
  | .agg xs => noOwnL xs
  | .tup xs => noOwnL xs
  | .clo _ xs => noOwnL xs
  | .un => true
  | .sc _ => true
  | .nil => true
  | .vw _ _ _ => true
  | .pt _ _ _ => true
  | .rp _ => true
  | .mp _ => true
  | .rmp _ => true
  | .al _ x => noOwn x
def noOwnL : List A → Bool
  | [] => true
  | x :: xs => noOwn x && noOwnL xs
end
theorem noOwnL_eq : ∀ xs : List A, noOwnL xs = xs.all noOwn
  | [] => rfl
  | x :: xs => by rw [noOwnL, noOwnL_eq xs]; rfl
theorem noOwn_sl (o : Bool) (n : Nat) (xs : List A) : noOwn (.sl o n xs) = !o := rfl
theorem noOwn_bx (xs : List A) : noOwn (.bx xs) = false := rfl
theorem noOwn_agg (xs : List A) : noOwn (.agg xs) = xs.all noOwn := by rw [noOwn, noOwnL_eq]
theorem noOwn_tup (xs : List A) : noOwn (.tup xs) = xs.all noOwn := by rw [noOwn, noOwnL_eq]
theorem noOwn_clo (g : Nat) (xs : List A) : noOwn (.clo g xs) = xs.all noOwn := by rw [noOwn, noOwnL_eq]
theorem noOwn_sc (v : Value) : noOwn (.sc v) = true := rfl
theorem noOwn_rp (xs : List A) : noOwn (.rp xs) = true := rfl
theorem noOwn_al (v : Value) (x : A) : noOwn (.al v x) = noOwn x := by rw [noOwn]
theorem noOwn_vw (r i l : Nat) : noOwn (.vw r i l) = true := rfl
theorem Rel.noOwn {w : World} {G : Nat → Prop} {x : A} {v : Value} {F : List Nat} (h : Rel w G x v F) (hf : Fw.noOwn x = true) : F = [] := by
  refine Rel.rec (motive_1 := fun x v F _ => Fw.noOwn x = true → F = []) (motive_2 := fun xs vs F _ => xs.all Fw.noOwn = true → F = [])
    ?_ ?_ ?_ ?_ ?_ ?_ ?_ ?_ ?_ ?_ ?_ ?_ ?_ ?_ ?_ h hf
  · intros; rfl
  · intros; rfl
  · intros; rfl
  · intros; rfl
  · intros; rfl
  · intros; rfl
  · intro n xs b len cap cur e cs F hh hw hlen hc hl hcap hm hs hv ih hf; simp [noOwn_sl] at hf
  · intro xs cs F hl ih hf; exact ih (by rwa [noOwn_agg] at hf)
  · intro xs cs F hl ih hf; exact ih (by rwa [noOwn_tup] at hf)
  · intros; rfl
  · intro xs b cur e F hh hl hv ih hf; simp [noOwn_bx] at hf
  · intro g caps cs F hl ih hf; exact ih (by rwa [noOwn_clo] at hf)
  · intros; rfl
  · intros; rfl
  · intro x v F xs vs Fs h hl ih ih' hf
    simp only [List.all_cons, Bool.and_eq_true] at hf
    rw [ih hf.1, ih' hf.2]; rfl
theorem RelL.noOwn {w : World} {G : Nat → Prop} : ∀ {xs : List A} {vs : List Value} {F : List Nat}, RelL w G xs vs F → xs.all Fw.noOwn = true → F = []
  | _, _, _, .nil, _ => rfl
  | _, _, _, .cons h hl, hf => by
    simp only [List.all_cons, Bool.and_eq_true] at hf
    rw [h.noOwn hf.1, hl.noOwn hf.2]; rfl
theorem TRel.noOwn {w : World} {G : Nat → Prop} {rows : List (Option Row)} {gs : Gh} {x : A} {v : Value} {F : List Nat} (h : TRel w G rows gs x v F) (hf : Fw.noOwn x = true) : F = [] := by
  refine TRel.rec (motive_1 := fun x v F _ => Fw.noOwn x = true → F = []) (motive_2 := fun xs vs F _ => xs.all Fw.noOwn = true → F = []) ?_ ?_ ?_ ?_ ?_ ?_ ?_ ?_ ?_ ?_ ?_ ?_ h hf
  · intros; rfl
  · intro x v F h hf; exact h.noOwn hf
  · intros; rfl
  · intros; rfl
  · intros; rfl
  · intro xs cs F hl ih hf; exact ih (by rwa [noOwn_agg] at hf)
  · intro xs cs F hl ih hf; exact ih (by rwa [noOwn_tup] at hf)
  · intro g caps cs F hl ih hf; exact ih (by rwa [noOwn_clo] at hf)
  · intros; rfl
  · intro x v F h ih hf; exact ih (by rwa [noOwn_al] at hf)
  · intros; rfl
  · intro x v F xs vs Fs h hl ih ih' hf
    simp only [List.all_cons, Bool.and_eq_true] at hf
    rw [ih hf.1, ih' hf.2]; rfl
theorem TRelL.noOwn {w : World} {G : Nat → Prop} {rows : List (Option Row)} {gs : Gh} : ∀ {xs : List A} {vs : List Value} {F : List Nat}, TRelL w G rows gs xs vs F → xs.all Fw.noOwn = true → F = []
  | _, _, _, .nil, _ => rfl
  | _, _, _, .cons h hl, hf => by
    simp only [List.all_cons, Bool.and_eq_true] at hf
    rw [h.noOwn hf.1, hl.noOwn hf.2]; rfl
theorem TRelL.split {w : World} {G : Nat → Prop} {rows : List (Option Row)} {gs : Gh} : ∀ {xs ys : List A} {vs : List Value} {F : List Nat}, TRelL w G rows gs (xs ++ ys) vs F →
    ∃ F1 F2, F = F1 ++ F2 ∧ TRelL w G rows gs xs (vs.take xs.length) F1 ∧ TRelL w G rows gs ys (vs.drop xs.length) F2
  | [], ys, vs, F, h => ⟨[], F, rfl, by simpa using TRelL.nil, by simpa using h⟩
  | x :: xs, ys, _, _, .cons (F := F) (Fs := Fs) h hl => by
    obtain ⟨F1, F2, rfl, h1, h2⟩ := hl.split (xs := xs)
    exact ⟨F ++ F1, F2, by simp, by simpa using TRelL.cons h h1, by simpa using h2⟩
theorem TRelL.take_ {w : World} {G : Nat → Prop} {rows : List (Option Row)} {gs : Gh} {xs : List A} {vs : List Value} {F : List Nat} (h : TRelL w G rows gs xs vs F) (n : Nat) :
    ∃ F1 F2, F = F1 ++ F2 ∧ TRelL w G rows gs (xs.take n) (vs.take n) F1 ∧ TRelL w G rows gs (xs.drop n) (vs.drop n) F2 := by
  have hl := h.length
  rw [← List.take_append_drop n xs] at h
  obtain ⟨F1, F2, e, h1, h2⟩ := h.split
  by_cases hn : n ≤ xs.length
  · rw [List.length_take, Nat.min_eq_left hn] at h1 h2
    exact ⟨F1, F2, e, h1, h2⟩
  · have hn' : xs.length ≤ n := by omega
    rw [List.take_of_length_le hn', List.drop_eq_nil_of_le hn', List.take_of_length_le (by omega), List.drop_eq_nil_of_le (by omega)]
    rw [List.take_of_length_le hn', List.take_of_length_le (by omega)] at h1
    rw [List.drop_eq_nil_of_le hn', List.take_of_length_le hn', List.drop_eq_nil_of_le (by omega)] at h2
    exact ⟨F1, F2, e, h1, h2⟩
theorem TRelL.append {w : World} {G : Nat → Prop} {rows : List (Option Row)} {gs : Gh} {ys : List A} {us : List Value} {F' : List Nat} :
    ∀ {xs : List A} {vs : List Value} {F : List Nat}, TRelL w G rows gs xs vs F → TRelL w G rows gs ys us F' → TRelL w G rows gs (xs ++ ys) (vs ++ us) (F ++ F')
  | _, _, _, .nil, h' => by simpa using h'
  | _, _, _, .cons (F := F) (Fs := Fs) h hl, h' => by
    have := TRelL.cons h (hl.append h')
    simpa [List.append_assoc] using this

section
variable {P : Program} {E : Env P} {G : Nat → Prop} {gs : Gh} {S : State} {a : Act} {w : World}

theorem run_isAgg {t : TypeId} {b : Bool} (h : aggT P t = some b) (w : World) : (isAgg t).run P w = .ok b w := by
  unfold aggT at h
  cases hu : P.underlying t with
  | none => simp [hu] at h
  | some d =>
    simp only [hu, Option.map_some, Option.some.injEq] at h
    unfold isAgg
    rw [Sem.run_bind, run_underlying hu w]
    subst h
    cases d <;> rfl
theorem run_sizeOf {t : TypeId} {s : Nat} (h : szT P t = some s) (w : World) : (sizeOf t).run P w = .ok s w := by
  unfold szT at h
  cases hu : P.info? t with
  | none => simp [hu] at h
  | some i =>
    simp only [hu, Option.map_some, Option.some.injEq] at h
    simp [sizeOf, typeInfo, hu, h]
theorem run_zero {t : TypeId} {z : Value} (h : zeroT P t = some z) (w : World) : (zeroValue t).run P w = .ok z w := by
  unfold zeroT at h
  cases hu : P.info? t with
  | none => simp [hu] at h
  | some i =>
    simp only [hu, Option.bind_some] at h
    simp [zeroValue, typeInfo, hu, h]
theorem add_none (b k n : Nat) : (⟨b, k, none⟩ : Addr).add n = ⟨b, k + n, none⟩ := by unfold Addr.add; split <;> simp_all
theorem cell_at {b k : Nat} {cur : Array Value} {e : TypeId} {fr : Nat × Nat} (h : w.heap[b]? = some (.cells cur e fr)) : w.cell? ⟨b, k, none⟩ = cur[k]? := by
  simp [World.cell?, h]
theorem run_loadVar_cell {t : TypeId} (ha : aggT P t = some false) {b k : Nat} {cur : Array Value} {e : TypeId} {fr : Nat × Nat} (h : w.heap[b]? = some (.cells cur e fr)) {v : Value} (hv : cur[k]? = some v) :
    (loadVar t ⟨b, k, none⟩).run P w = .ok v w := by
  simp [loadVar, run_isAgg ha, cell_at h, hv]
theorem run_loadVar_agg {t : TypeId} (ha : aggT P t = some true) {s : Nat} (hs : szT P t = some s) {b k : Nat} {cur : Array Value} {e : TypeId} {fr : Nat × Nat} (h : w.heap[b]? = some (.cells cur e fr)) {cs : List Value}
    (hc : (cur.toList.drop k).take s = cs) (hl : cs.length = s) : (loadVar t ⟨b, k, none⟩).run P w = .ok (.agg cs.toArray) w := by
  have hr := run_loadCells_list (P := P) w ⟨b, k, none⟩ cs (fun j v hv => by
    rw [add_none, cell_at h]
    rw [← hc] at hv
    have hj : j < s := by
      rcases Nat.lt_or_ge j s with h | h
      · exact h
      · rw [List.getElem?_take_eq_none h] at hv; simp at hv
    rw [List.getElem?_take_of_lt hj, List.getElem?_drop] at hv
    simpa using hv)
  simp only [loadVar, Sem.run_bind, run_isAgg ha, Result.andThen_ok, if_true, run_sizeOf hs]
  rw [← hl, hr]
  rfl

theorem row_real {tmps : Array Value} (hi : Inv E G gs S tmps w) {r : Nat} {row : Row} (hr : rowAt S.rows r = some row) (hx : row.xs.length ≠ 0) (hg : row.lk = true ∨ ∃ b0, (gs r).1 = some b0) : ∃ b, (gs r).1 = some b ∧ RowCells w G S.rows gs row b (gs r).2 := by
  have h := hi.row r row hr
  cases hb : (gs r).1 with
  | none =>
    rw [hb] at h
    rcases h with h | h
    · exact absurd (by rw [h.1]; rfl) hx
    · obtain ⟨_, _, _, _, _, h1, _⟩ := h.ex
      rcases hg with h2 | ⟨b0, h2⟩
      · rw [h1] at h2; cases h2
      · rw [hb] at h2; cases h2
  | some b => rw [hb] at h; exact ⟨b, rfl, h⟩
/-- What stands in a row, from cell o of element j on. -/
theorem row_seg (hi : Inv E G gs S a.tmps w) {r j o s : Nat} {row : Row} {x : A} (hr : rowAt S.rows r = some row) (hx : row.xs[j]? = some x) (hs : o + s ≤ row.n) (hno : ((x.cells.drop o).take s).all noOwn = true) (hg : row.lk = true ∨ ∃ b0, (gs r).1 = some b0) :
    ∃ b cur e cs, (gs r).1 = some b ∧ w.heap[b]? = some (.cells cur e (0, 0)) ∧ (cur.toList.drop (j * row.n + o)).take s = cs ∧ TRelL w G S.rows gs ((x.cells.drop o).take s) cs [] ∧ cs.length = s := by
  have hj : j < row.xs.length := by
    rcases Nat.lt_or_ge j row.xs.length with h | h
    · exact h
    · rw [List.getElem?_eq_none h] at hx; simp at hx
  obtain ⟨b, hb, hrc⟩ := row_real hi hr (by omega) hg
  obtain ⟨cur, e, cap, h1, h2, h3, h4, h5, h6, h7⟩ := hrc.ex
  have h7' : TRelL w G S.rows gs (flat row.xs) (cur.toList.take (row.xs.length * row.n)) (gs r).2 := by
    unfold CellsRel at h7
    split at h7
    · exact h7
    · exact .of h7
  obtain ⟨F1, F2, e1, _, g2⟩ := h7'.take_ (j * row.n + o)
  obtain ⟨F3, F4, e2, g3, _⟩ := g2.take_ s
  rw [flat_seg h5 hx o s hs] at g3
  have hF := g3.noOwn hno
  subst hF
  have hle : (j + 1) * row.n ≤ row.xs.length * row.n := Nat.mul_le_mul_right _ hj
  rw [Nat.add_mul] at hle
  have e3 : ((cur.toList.take (row.xs.length * row.n)).drop (j * row.n + o)).take s = (cur.toList.drop (j * row.n + o)).take s := by
    rw [List.drop_take, List.take_take, Nat.min_eq_left (by omega)]
  rw [e3] at g3
  refine ⟨b, cur, e, _, hb, h1, rfl, g3, ?_⟩
  rw [g3.length]
  have hw := h5 x (List.mem_of_getElem? hx)
  unfold A.width at hw
  simp
  omega

theorem pt_inv {rows : List (Option Row)} {r j o : Nat} {u : Value} {F : List Nat} (h : TRel w G rows gs (.pt r j o) u F) : ∃ row b, rowAt rows r = some row ∧ (gs r).1 = some b ∧ u = .pointer (some ⟨b, j * row.n + o, none⟩) := by
  cases h with
  | of h => cases h
  | pt hr hb hk => exact ⟨_, _, hr, hb, by rw [hk]⟩
theorem rp_inv {rows : List (Option Row)} {xs : List A} {u : Value} {F : List Nat} (h : TRel w G rows gs (.rp xs) u F) :
    ∃ b k cur e fr, u = .pointer (some ⟨b, k, none⟩) ∧ w.heap[b]? = some (.cells cur e fr) ∧ G b ∧ RelL w G xs ((cur.toList.drop k).take xs.length) [] := by
  cases h with
  | of h => cases h with | rp hh hg hc hl => exact ⟨_, _, _, _, _, rfl, hh, hg, hc ▸ hl⟩

theorem VOK_load_pt {o : Oper} {t : TypeId} {x : Operand} {r j q : Nat} {row : Row} {y z : A} (ho : o.op = .load t x) (hx : okO x = true) (he : ev S x = .pt r j q) (hr : rowAt S.rows r = some row)
    (hy : row.xs[j]? = some y) (ha : aggT P t = some false) (hz : y.cells[q]? = some z) (hno : noOwn z = true) : VOK P o S z := by
  refine fun E G gs a w hi => ?_
  have h1 := ev_rel hi x hx
  rw [he] at h1
  obtain ⟨row', b, hr', hb, hv⟩ := pt_inv h1
  rw [hr] at hr'
  obtain rfl := Option.some.inj hr'
  have hq : q < y.cells.length := by
    rcases Nat.lt_or_ge q y.cells.length with h | h
    · exact h
    · rw [List.getElem?_eq_none h] at hz; simp at hz
  have hw : y.width = row.n := by
    obtain ⟨b', _, hrc⟩ := row_real hi hr (by
      intro h0
      rw [List.eq_nil_of_length_eq_zero h0] at hy
      simp at hy) (.inr ⟨_, hb⟩)
    obtain ⟨_, _, _, _, _, _, _, h5, _⟩ := hrc.ex
    exact h5 y (List.mem_of_getElem? hy)
  unfold A.width at hw
  have hseg : (y.cells.drop q).take 1 = [z] := by
    rw [List.drop_eq_getElem_cons hq]
    rw [List.getElem?_eq_getElem hq] at hz
    simp only [Option.some.injEq] at hz
    simp [hz]
  obtain ⟨b1, cur, e, cs, g0, g1, g2, g3, g4⟩ := row_seg hi hr hy (o := q) (s := 1) (by omega) (by rw [hseg]; simpa using hno) (.inr ⟨_, hb⟩)
  rw [hb] at g0
  obtain rfl := Option.some.inj g0
  rw [hseg] at g3
  obtain ⟨v, hv1, hv2⟩ := g3.get 0 z rfl
  have hcur : cur[j * row.n + q]? = some v := by
    rw [← g2] at hv1
    rw [List.getElem?_take_of_lt (by omega), List.getElem?_drop] at hv1
    simpa using hv1
  exact ⟨v, fun w' hw' => by simp [execOp, ho, Instr.loadAt, hv, Instr.sureAddr, run_loadVar_cell ha (keep_at hw' g1) hcur], hv2⟩
theorem VOK_load_ptAgg {o : Oper} {t : TypeId} {x : Operand} {r j q s : Nat} {row : Row} {y : A} (ho : o.op = .load t x) (hx : okO x = true) (he : ev S x = .pt r j q) (hr : rowAt S.rows r = some row)
    (hy : row.xs[j]? = some y) (ha : aggT P t = some true) (hs : szT P t = some s) (hq : q + s ≤ row.n) (hno : ((y.cells.drop q).take s).all noOwn = true) : VOK P o S (.agg ((y.cells.drop q).take s)) := by
  refine fun E G gs a w hi => ?_
  have h1 := ev_rel hi x hx
  rw [he] at h1
  obtain ⟨row', b, hr', hb, hv⟩ := pt_inv h1
  rw [hr] at hr'
  obtain rfl := Option.some.inj hr'
  obtain ⟨b1, cur, e, cs, g0, g1, g2, g3, g4⟩ := row_seg hi hr hy hq hno (.inr ⟨_, hb⟩)
  rw [hb] at g0
  obtain rfl := Option.some.inj g0
  exact ⟨.agg cs.toArray, fun w' hw' => by simp [execOp, ho, Instr.loadAt, hv, Instr.sureAddr, run_loadVar_agg ha hs (keep_at hw' g1) g2 g4], .agg g3⟩
theorem VOK_load_rp {o : Oper} {t : TypeId} {x : Operand} {xs : List A} {z : A} (ho : o.op = .load t x) (hx : okO x = true) (he : ev S x = .rp xs)
    (ha : aggT P t = some false) (hz : xs[0]? = some z) : VOK P o S z := by
  refine fun E G gs a w hi => ?_
  have h1 := ev_rel hi x hx
  rw [he] at h1
  obtain ⟨b, k, cur, e, fr, hv, hh, hg, hl⟩ := rp_inv h1
  obtain ⟨v, hv1, hv2⟩ := hl.get 0 z hz
  have hcur : cur[k]? = some v := by
    have h0 : 0 < xs.length := by
      rcases Nat.eq_zero_or_pos xs.length with h | h
      · rw [List.eq_nil_of_length_eq_zero h] at hz; simp at hz
      · exact h
    rw [List.getElem?_take_of_lt h0, List.getElem?_drop] at hv1
    simpa using hv1
  exact ⟨v, fun w' hw' => by simp [execOp, ho, Instr.loadAt, hv, Instr.sureAddr, run_loadVar_cell ha (keep_at hw' hh) hcur], .of hv2⟩
theorem VOK_load_rpAgg {o : Oper} {t : TypeId} {x : Operand} {xs : List A} {s : Nat} (ho : o.op = .load t x) (hx : okO x = true) (he : ev S x = .rp xs)
    (ha : aggT P t = some true) (hs : szT P t = some s) (hq : s ≤ xs.length) : VOK P o S (.agg (xs.take s)) := by
  refine fun E G gs a w hi => ?_
  have h1 := ev_rel hi x hx
  rw [he] at h1
  obtain ⟨b, k, cur, e, fr, hv, hh, hg, hl⟩ := rp_inv h1
  have h2 := hl.take0 s
  have h3 := h2.length
  rw [List.take_take, Nat.min_eq_left hq] at h2 h3
  exact ⟨.agg ((cur.toList.drop k).take s).toArray, by
    intro w' hw'
    simp [execOp, ho, Instr.loadAt, hv, Instr.sureAddr, run_loadVar_agg ha hs (keep_at hw' hh) rfl (by rw [h3]; simp; omega)], .of (.agg h2)⟩

theorem VOK_fieldAddr_pt {o : Oper} {t : TypeId} {x : Operand} {i r j q off s : Nat} {g : Bool} (ho : o.op = .fieldAddr t x i) (hx : okO x = true) (he : ev S x = .pt r j q)
    (hf : fieldT P t i = some (off, s, g)) (hs : s ≠ 0) : VOK P o S (.pt r j (q + off)) := by
  refine fun E G gs a w hi => ?_
  have h1 := ev_rel hi x hx
  rw [he] at h1
  obtain ⟨row, b, hr, hb, hv⟩ := pt_inv h1
  unfold fieldT at hf
  split at hf <;> try simp at hf
  rename_i fs hu
  split at hf <;> try simp at hf
  rename_i f hfi
  split at hf <;> try simp at hf
  rename_i s' g' hsz hag
  obtain ⟨rfl, rfl, rfl⟩ := hf
  refine ⟨.pointer (some ⟨b, j * row.n + (q + f.offset), none⟩), ?_, .pt hr hb rfl⟩
  intro w' hw'
  simp [execOp, ho, Instr.fieldAt, run_underlying hu, hfi, hv, Instr.sureAddr, fieldPlace, run_sizeOf hsz, hs, add_none, Nat.add_assoc]
theorem VOK_fieldAddr_rp {o : Oper} {t : TypeId} {x : Operand} {xs : List A} {i off s : Nat} {g : Bool} (ho : o.op = .fieldAddr t x i) (hx : okO x = true) (he : ev S x = .rp xs)
    (hf : fieldT P t i = some (off, s, g)) (hs : s ≠ 0) : VOK P o S (.rp (xs.drop off)) := by
  refine fun E G gs a w hi => ?_
  have h1 := ev_rel hi x hx
  rw [he] at h1
  obtain ⟨b, k, cur, e, fr, hv, hh, hg, hl⟩ := rp_inv h1
  unfold fieldT at hf
  split at hf <;> try simp at hf
  rename_i fs hu
  split at hf <;> try simp at hf
  rename_i f hfi
  split at hf <;> try simp at hf
  rename_i s' g' hsz hag
  obtain ⟨rfl, rfl, rfl⟩ := hf
  refine ⟨.pointer (some ⟨b, k + f.offset, none⟩), ?_, .of (.rp hh hg rfl ?_)⟩
  · intro w' hw'
    simp [execOp, ho, Instr.fieldAt, run_underlying hu, hfi, hv, Instr.sureAddr, fieldPlace, run_sizeOf hsz, hs, add_none]
  · have := hl.drop0 f.offset
    rw [List.drop_take, List.drop_drop] at this
    simpa using this

theorem vw_inv {rows : List (Option Row)} {r off len : Nat} {u : Value} {F : List Nat} (h : TRel w G rows gs (.vw r off len) u F) :
    (∃ row k cap cur e b, rowAt rows r = some row ∧ (gs r).1 = some b ∧ off + len ≤ row.xs.length ∧ w.heap[b]? = some (.cells cur e (0, 0)) ∧ cur.size = cap * row.n ∧ cap ≤ maxLen ∧ row.xs.length ≤ cap ∧
      (k = off * row.n ∨ (cap = off ∧ 0 < off)) ∧ u = .slice (some ⟨b, k, none⟩) len (cap - off)) ∨
    (∃ row, rowAt rows r = some row ∧ (gs r).1 = none ∧ row.xs = [] ∧ off = 0 ∧ len = 0 ∧ u = .slice none 0 0) := by
  cases h with
  | of h => cases h
  | vw hr hb hl hh hs hm hc hk => exact .inl ⟨_, _, _, _, _, _, hr, hb, hl, hh, hs, hm, hc, hk, rfl⟩
  | vwn hr hb hx => exact .inr ⟨_, hr, by rw [hb], hx, rfl, rfl, rfl⟩
/-- A nil slice's row holds nothing. -/
theorem vw_nil {rows : List (Option Row)} {r off len : Nat} {u : Value} {F : List Nat} (h : TRel w G rows gs (.vw r off len) u F) (hn : (gs r).1 = none) : gs r = (none, []) := by
  cases h with
  | of h => cases h
  | vw hr hb => rw [hb] at hn; cases hn
  | vwn hr hb => exact hb
theorem slf_inv {rows : List (Option Row)} {n : Nat} {xs : List A} {u : Value} {F : List Nat} (h : TRel w G rows gs (.sl false n xs) u F) :
    ((∃ oa, u = .slice oa 0 0) ∧ xs = []) ∨ ∃ b k cap cur e fr, u = .slice (some ⟨b, k, none⟩) xs.length cap ∧ w.heap[b]? = some (.cells cur e fr) ∧ G b ∧ (∀ x ∈ xs, x.width = n) ∧
      RelL w G (flat xs) ((cur.toList.drop k).take (xs.length * n)) [] ∧ xs.length ≤ cap ∧ cap ≤ maxLen := by
  cases h with
  | of h => cases h with
    | nils => exact .inl ⟨⟨_, rfl⟩, rfl⟩
    | roz => exact .inl ⟨⟨_, rfl⟩, rfl⟩
    | ro hh hg hw hlen hc hl hcap hm => subst hlen; subst hc; exact .inr ⟨_, _, _, _, _, _, rfl, hh, hg, hw, hl, hcap, hm⟩

theorem elemT_inv {t e : TypeId} (h : elemT P t = some e) : P.underlying t = some (.slice e) := by
  unfold elemT at h
  split at h
  · rename_i h'; simp at h; subst h; exact h'
  · simp at h
theorem VOK_indexAddr_vw {o : Oper} {t e : TypeId} {x y : Operand} {r off len : Nat} {k : IntKind} {i : Int} {row : Row} (ho : o.op = .indexAddr t x y) (hx : okO x = true) (hy : okO y = true)
    (h1 : ev S x = .vw r off len) (h2 : ev S y = .sc (.int k i)) (hr : rowAt S.rows r = some row) (he : elemT P t = some e) (hs : szT P e = some row.n) (h0 : 0 ≤ i) (hl : i < len)
    : VOK P o S (.pt r (off + i.toNat) 0) := by
  refine fun E G gs a w hi => ?_
  have e1 := ev_rel hi x hx
  have e2 := ev_rel hi y hy
  rw [h1] at e1
  rw [h2] at e2
  obtain ⟨row', kk, cap, cur, et, b, hr', hob, g1, g2, g3, g4, g5, g6, hv⟩ := (vw_inv e1).resolve_right (by
    intro ⟨_, _, _, _, _, h0, _⟩
    omega)
  rw [hr] at hr'
  obtain rfl := Option.some.inj hr'
  have hv2 := (sc_inv e2).1
  have hk : kk = off * row.n := by rcases g6 with h | h <;> omega
  subst hk
  refine ⟨_, ?_, .pt hr hob rfl⟩
  intro w' hw'
  simp [execOp, ho, hv, hv2, Instr.indexAt, asIntOf, run_underlying (elemT_inv he), h0, hl, run_sizeOf hs, add_none, Nat.add_mul]
theorem VOK_indexAddr_sl {o : Oper} {t e : TypeId} {x y : Operand} {n : Nat} {xs : List A} {k : IntKind} {i : Int} {z : A} (ho : o.op = .indexAddr t x y) (hx : okO x = true) (hy : okO y = true)
    (h1 : ev S x = .sl false n xs) (h2 : ev S y = .sc (.int k i)) (he : elemT P t = some e) (hs : szT P e = some n) (h0 : 0 ≤ i) (hz : xs[i.toNat]? = some z)
    : VOK P o S (.rp z.cells) := by
  refine fun E G gs a w hi => ?_
  have e1 := ev_rel hi x hx
  have e2 := ev_rel hi y hy
  rw [h1] at e1
  rw [h2] at e2
  have hv2 := (sc_inv e2).1
  have hl : i.toNat < xs.length := by
    rcases Nat.lt_or_ge i.toNat xs.length with h | h
    · exact h
    · rw [List.getElem?_eq_none h] at hz; simp at hz
  rcases slf_inv e1 with ⟨_, rfl⟩ | ⟨b, kk, cap, cur, et, fr, hv, hh, hg, hw, hrel, hcap, hm⟩
  · simp at hl
  · refine ⟨.pointer (some ⟨b, kk + i.toNat * n, none⟩), ?_, .of (.rp hh hg rfl ?_)⟩
    · have : i < (xs.length : Int) := by omega
      intro w' hw'
      simp [execOp, ho, hv, hv2, Instr.indexAt, asIntOf, run_underlying (elemT_inv he), h0, this, run_sizeOf hs, add_none]
    · have h3 := (hrel.drop0 (i.toNat * n)).take0 n
      have hseg := flat_seg hw hz 0 n (by omega)
      simp only [Nat.add_zero, List.drop_zero] at hseg
      have hzw := hw z (List.mem_of_getElem? hz)
      unfold A.width at hzw
      rw [hseg, ← hzw, List.take_length, hzw] at h3
      have hle : (i.toNat + 1) * n ≤ xs.length * n := Nat.mul_le_mul_right _ hl
      rw [Nat.add_mul] at hle
      rw [List.drop_take, List.take_take, Nat.min_eq_left (by omega), List.drop_drop] at h3
      rw [hzw]
      exact h3

def lenA : A → Option Nat
  | .nil => some 0
  | .sl false _ xs => some xs.length
  | .vw _ _ len => some len
  | .sc (.string s) => some (bs s).length
  | _ => none
theorem VOK_len {o : Oper} {t : TypeId} {x : Operand} {n : Nat} (ho : o.op = .call { callee := .builtin .len, args := #[x], argTypes := #[t] }) (hx : okO x = true)
    (ht : (elemT P t).isSome = true ∨ isStrT P t = true) (hn : lenA (ev S x) = some n)
    (htx : isStrT P t = true ↔ ∃ s, ev S x = .sc (.string s)) : VOK P o S (.sc (.int .i64 n)) := by
  refine fun E G gs a w hi => ⟨.int .i64 n, ?_, .of (.sc rfl)⟩
  have e1 := ev_rel hi x hx
  by_cases hs : isStrT P t = true
  · obtain ⟨s, hes⟩ := htx.1 hs
    rw [hes] at e1 hn
    have hv := (sc_inv e1).1
    simp only [lenA, Option.some.injEq] at hn
    have hu : P.underlying t = some .string := by
      unfold isStrT at hs
      split at hs
      · assumption
      · simp at hs
    subst hn
    intro w' hw'
    simp [execOp, ho, resolve, invoke, builtin, Builtin.len_, run_underlying hu, hv, goInt, bs_length]
  · obtain ⟨e, he⟩ := Option.isSome_iff_exists.1 (ht.resolve_right hs)
    have hu := elemT_inv he
    have : ∃ b c, a.eval x = .slice b n c := by
      generalize ev S x = q at e1 hn htx
      cases q <;> simp [lenA] at hn
      case sc v =>
        cases v <;> simp [lenA] at hn
        exact absurd (htx.2 ⟨_, rfl⟩) hs
      case nil =>
        subst hn
        generalize a.eval x = u at e1
        cases e1 with
        | of h => cases h; exact ⟨none, 0, rfl⟩
      case sl o n' xs =>
        cases o <;> simp [lenA] at hn
        subst hn
        rcases slf_inv e1 with ⟨⟨oa, h⟩, rfl⟩ | ⟨b, kk, cap, cur, et, fr, hv, _⟩
        · exact ⟨_, _, h⟩
        · exact ⟨_, _, hv⟩
      case vw r off len =>
        subst hn
        rcases vw_inv e1 with ⟨_, _, _, _, _, _, _, _, _, _, _, _, _, _, hv⟩ | ⟨_, _, _, _, _, h0, hv⟩
        · exact ⟨_, _, hv⟩
        · subst h0; exact ⟨_, _, hv⟩
    obtain ⟨b, c, hv⟩ := this
    intro w' hw'
    simp [execOp, ho, resolve, invoke, builtin, Builtin.len_, run_underlying hu, hv, goInt]
end
end Go.Fw

/- Operations that make memory or write it. Plain theorems, no condition. -/
set_option linter.unusedVariables false
set_option linter.unusedSimpArgs false
namespace Go.Fw

section
variable {P : Program} {E : Env P} {G : Nat → Prop} {gs : Gh} {S : State} {a : Act} {w : World} {tmps : Array Value}

theorem heap_alloc_self (w : World) (o : Obj) : (w.alloc o).heap[w.heap.size]? = some o := heap_alloc_new w o
theorem heap_alloc_lt (w : World) (o : Obj) {k : Nat} (h : k < w.heap.size) : (w.alloc o).heap[k]? = w.heap[k]? := heap_alloc_old w o k h
theorem rowAt_push (rows : List (Option Row)) (x : Option Row) (r : Nat) : rowAt (rows ++ [x]) r = if r = rows.length then x else rowAt rows r := by
  unfold rowAt
  rcases Nat.lt_trichotomy r rows.length with h | h | h
  · rw [List.getElem?_append_left h, if_neg (by omega)]
  · subst h; simp
  · rw [if_neg (by omega), List.getElem?_append_right (by omega), List.getElem?_eq_none (by simp; omega), List.getElem?_eq_none (by omega)]
theorem rowAt_none {rows : List (Option Row)} {r : Nat} (h : rows.length ≤ r) : rowAt rows r = none := by
  unfold rowAt; rw [List.getElem?_eq_none h]; rfl
theorem rowAt_lt {rows : List (Option Row)} {r : Nat} {row : Row} (h : rowAt rows r = some row) : r < rows.length := by
  rcases Nat.lt_or_ge r rows.length with h' | h'
  · exact h'
  · rw [rowAt_none h'] at h; simp at h

/-- Blocks that are set aside: held by values on their way into memory. -/
structure Res (E : Env P) (G : Nat → Prop) (gs : Gh) (rows : List (Option Row)) (R : List Nat) : Prop where
  nod : R.Nodup
  own : ∀ b ∈ R, ¬ G b ∧ (E.Fin b ∨ E.w0.heap.size ≤ b)
  dis : ∀ r row, rowAt rows r = some row → ∀ b ∈ gs.all r, b ∉ R
theorem Res.nil : Res E G gs S.rows [] := ⟨.nil, by simp, by simp⟩

def State.addRow (S : State) (row : Row) : State := { S with rows := S.rows ++ [some row] }
def Gh.add (gs : Gh) (r : Nat) (b : Option Nat) (F : List Nat) : Gh := fun i => if i = r then (b, F) else gs i

theorem RowLe.refl_of {w' : World} {rows rows' : List (Option Row)} {gs gs' : Gh} {r : Nat} (h1 : ∀ row, rowAt rows r = some row → rowAt rows' r = some row ∧ gs' r = gs r ∧ ∀ b, (gs r).1 = some b → w'.heap[b]? = w.heap[b]?) :
    RowLe w w' rows rows' gs gs' r := ⟨fun row hr => by
      obtain ⟨g1, g2, g3⟩ := h1 row hr
      exact ⟨row, g1, by rw [g2], rfl, rfl, fun b cur e hb hh => ⟨cur, e, by rw [g3 b hb]; exact hh, rfl⟩⟩, fun row hr _ => (h1 row hr).2.1⟩

theorem Inv.block_lt (hi : Inv E G gs S tmps w) {r : Nat} {row : Row} (hr : rowAt S.rows r = some row) : ∀ b ∈ gs.all r, b < w.heap.size := by
  intro b hb
  have h := hi.row r row hr
  unfold Gh.all at hb
  cases hob : (gs r).1 with
  | none =>
    rw [hob] at h hb
    rcases h with h | h
    · rw [h.2] at hb
      simp at hb
    · obtain ⟨b1, _, _, e1, h1, _⟩ := h.ex
      rw [e1] at hb
      simp at hb; subst hb
      exact (Array.getElem?_eq_some_iff.1 h1).1
  | some b0 =>
    rw [hob] at h hb
    obtain ⟨cur, e, cap, h1, h2, h3, h4, h5, h6, h7⟩ := h.ex
    rcases List.mem_append.1 hb with hb | hb
    · simp at hb; subst hb
      exact (Array.getElem?_eq_some_iff.1 h1).1
    · unfold CellsRel at h7
      split at h7
      · refine TRelL.rec (motive_1 := fun x v F _ => ∀ b ∈ F, b < w.heap.size) (motive_2 := fun xs vs F _ => ∀ b ∈ F, b < w.heap.size) ?_ ?_ ?_ ?_ ?_ ?_ ?_ ?_ ?_ ?_ ?_ ?_ h7 b hb
        · intros; simp_all
        · intro x v F h b hb; exact h.lt b hb
        · intros; simp_all
        · intros; simp_all
        · intros; simp_all
        · intro xs cs F hl ih; exact ih
        · intro xs cs F hl ih; exact ih
        · intro g caps cs F hl ih; exact ih
        · intros; simp_all
        · intro x v F h ih; exact ih
        · intros; simp_all
        · intro x v F xs vs Fs h hl ih ih' b hb
          rcases List.mem_append.1 hb with hb | hb
          · exact ih b hb
          · exact ih' b hb
      · exact h7.lt b hb

/-- A row more: its blocks are laid in w' (a new one, or some that came with a call); what was there stands. -/
theorem Inv.adopt (hi : Inv E G gs S tmps w) {w' : World} {G' : Nat → Prop} {R : List Nat} {ob : Option Nat} {row : Row}
    (hos : w'.os = w.os) (htape : w'.tape = w.tape) (hout : w'.output = w.output) (hsize : w.heap.size ≤ w'.heap.size) (hold : ∀ b, b < w.heap.size → w'.heap[b]? = w.heap[b]?)
    (hG1 : ∀ b, G b → G' b) (hG2 : ∀ b, G' b → G b ∨ w.heap.size ≤ b) (hG3 : ∀ b, G' b → b < w'.heap.size)
    (hnod : (ob.toList ++ R).Nodup) (hown : ∀ b ∈ ob.toList ++ R, ¬ G' b ∧ (E.Fin b ∨ E.w0.heap.size ≤ b)) (hdis : ∀ r row', rowAt S.rows r = some row' → ∀ b ∈ gs.all r, b ∉ ob.toList ++ R)
    (hrow : ∀ rows' gs', (∀ r row', rowAt S.rows r = some row' → rowAt rows' r = some row' ∧ gs' r = gs r) → RowRel w' G' rows' gs' row ob R) :
    Inv E G' (gs.add S.rows.length ob R) (S.addRow row) tmps w' := by
  have hG : ∀ b, G b → G' b ∧ w'.heap[b]? = w.heap[b]? := fun b hb => ⟨hG1 b hb, hold b (hi.glt b hb)⟩
  have hne : ∀ r row', rowAt S.rows r = some row' → r ≠ S.rows.length := fun r row' hr => by have := rowAt_lt hr; omega
  have hgs : ∀ r row', rowAt S.rows r = some row' → (gs.add S.rows.length ob R) r = gs r := fun r row' hr => by simp [Gh.add, hne r row' hr]
  have hrows : ∀ r row', rowAt S.rows r = some row' → rowAt (S.addRow row).rows r = some row' := fun r row' hr => by
    show rowAt (S.rows ++ [some row]) r = _
    rw [rowAt_push, if_neg (hne r row' hr)]; exact hr
  have hblk : ∀ r row', rowAt S.rows r = some row' → ∀ c ∈ gs.all r, w'.heap[c]? = w.heap[c]? := fun r row' hr c hc => hold c (hi.block_lt hr c hc)
  have hle : ∀ r, RowLe w w' S.rows (S.addRow row).rows gs (gs.add S.rows.length ob R) r := fun r => RowLe.refl_of fun row' hr =>
    ⟨hrows r row' hr, by rw [hgs r row' hr], fun b hb => hblk r row' hr b (by simp [Gh.all, hb])⟩
  have hcase : ∀ r row', rowAt (S.addRow row).rows r = some row' → (r = S.rows.length ∧ row' = row) ∨ (r ≠ S.rows.length ∧ rowAt S.rows r = some row') := fun r row' hr => by
    have hr' : rowAt (S.rows ++ [some row]) r = some row' := hr
    rw [rowAt_push] at hr'
    split at hr'
    · rename_i h; exact .inl ⟨h, (Option.some.inj hr').symm⟩
    · rename_i h; exact .inr ⟨h, hr'⟩
  have hself : (gs.add S.rows.length ob R) S.rows.length = (ob, R) := by simp [Gh.add]
  have hall0 : (gs.add S.rows.length ob R).all S.rows.length = ob.toList ++ R := by simp [Gh.all, hself]
  have hall : ∀ r row', rowAt S.rows r = some row' → (gs.add S.rows.length ob R).all r = gs.all r := fun r row' hr => by simp only [Gh.all, hgs r row' hr]
  refine ⟨fun b hb hf => ?_, hos.trans hi.os, htape.trans hi.tape, hout.trans hi.output, Nat.le_trans hi.size hsize, hi.sz, fun b hb => hG1 b (hi.gsub b hb), fun b hb => ?_, hi.glt.move hG1 (fun b h => (hG b h).2) hG3, fun r row' hr => ?_, fun r row' hr => ?_, fun r row' hr => ?_, fun r r' row' row'' hr hr' hne' => ?_, fun i => ?_⟩
  · rw [hold b (Nat.lt_of_lt_of_le hb hi.size)]; exact hi.keep b hb hf
  · rcases hG2 b hb with h | h
    · exact hi.gnew b h
    · exact .inr (.inr (Nat.le_trans hi.size h))
  · rcases hcase r row' hr with ⟨rfl, rfl⟩ | ⟨_, hr0⟩
    · rw [hself]
      exact hrow _ _ fun r row' hr => ⟨hrows r row' hr, hgs r row' hr⟩
    · rw [hgs r row' hr0]
      exact (hi.row r row' hr0).step hG hle (hblk r row' hr0)
  · rcases hcase r row' hr with ⟨rfl, rfl⟩ | ⟨_, hr0⟩
    · rw [hall0]; exact hnod
    · rw [hall r row' hr0]; exact hi.nod r row' hr0
  · rcases hcase r row' hr with ⟨rfl, rfl⟩ | ⟨_, hr0⟩
    · rw [hall0]; exact hown
    · rw [hall r row' hr0]
      intro b hb
      obtain ⟨h1, h2⟩ := hi.own r row' hr0 b hb
      refine ⟨fun h => ?_, h2⟩
      rcases hG2 b h with h | h
      · exact h1 h
      · have := hi.block_lt hr0 b hb; omega
  · rcases hcase r row' hr with ⟨rfl, rfl⟩ | ⟨h1, hr0⟩ <;> rcases hcase r' row'' hr' with ⟨rfl, rfl⟩ | ⟨h2, hr0'⟩
    · exact absurd rfl hne'
    · rw [hall0, hall r' row'' hr0']
      intro b hb hb'
      exact hdis r' row'' hr0' b hb' hb
    · rw [hall0, hall r row' hr0]
      intro b hb hb'
      exact hdis r row' hr0 b hb hb'
    · rw [hall r row' hr0, hall r' row'' hr0']
      exact hi.dis r r' row' row'' hr0 hr0' hne'
  · exact (hi.tmp i).step hG hle (by simp)

/-- A new block. -/
theorem Inv.addRow (hi : Inv E G gs S tmps w) {R : List Nat} (hR : Res E G gs S.rows R) {row : Row} {cur : Array Value} {e : TypeId} {cap : Nat} (hs : cur.size = cap * row.n) (hlen : CapOK row.lk row.xs.length cap) (hm : cap ≤ maxLen)
    (hw : ∀ x ∈ row.xs, x.width = row.n) (hv : ∀ v ∈ cur.toList.take (row.xs.length * row.n), cellV v = true)
    (hc : CellsRel row.lk w G S.rows gs (flat row.xs) (cur.toList.take (row.xs.length * row.n)) R) (hRlt : ∀ b ∈ R, b < w.heap.size) :
    Inv E G (gs.add S.rows.length (some w.heap.size) R) (S.addRow row) tmps (w.alloc (.cells cur e)) := by
  have hold : ∀ b, b < w.heap.size → (w.alloc (.cells cur e)).heap[b]? = w.heap[b]? := fun b hb => heap_alloc_lt w _ hb
  refine hi.adopt rfl rfl rfl (by simp) hold (fun _ h => h) (fun _ h => .inl h) (fun b hb => by have := hi.glt b hb; simp; omega) ?_ ?_ ?_ ?_
  · exact List.nodup_cons.2 ⟨fun h => by have := hRlt _ h; omega, hR.nod⟩
  · intro b hb
    rcases List.mem_cons.1 hb with rfl | hb
    · exact ⟨fun h => by have := hi.glt _ h; omega, .inr hi.size⟩
    · exact hR.own b hb
  · intro r row' hr b hb hb'
    rcases List.mem_cons.1 hb' with rfl | hb'
    · have := hi.block_lt hr _ hb; omega
    · exact hR.dis r row' hr b hb hb'
  · intro rows' gs' hrows
    refine ⟨cur, e, cap, heap_alloc_self w _, hs, hlen, hm, hw, hv, ?_⟩
    have hF : ∀ b ∈ R, (w.alloc (.cells cur e)).heap[b]? = w.heap[b]? := fun b hb => hold b (hRlt b hb)
    have hG : ∀ b, G b → G b ∧ (w.alloc (.cells cur e)).heap[b]? = w.heap[b]? := fun b hb => ⟨hb, hold b (hi.glt b hb)⟩
    unfold CellsRel at hc ⊢
    split
    · rename_i hl
      rw [if_pos hl] at hc
      refine hc.step hG (fun r => RowLe.refl_of fun row' hr => ?_) hF
      obtain ⟨g1, g2⟩ := hrows r row' hr
      exact ⟨g1, by rw [g2], fun b hb => hold b (hi.block_lt hr b (by simp [Gh.all, hb]))⟩
    · rename_i hl; rw [if_neg hl] at hc; exact hc.move_ hG hF

/-- The temporary that leads to a row just made. -/
theorem addRow_vw {R : List Nat} {row : Row} {cur : Array Value} {e : TypeId} {cap : Nat} (hs : cur.size = cap * row.n) (hlen : row.xs.length ≤ cap) (hm : cap ≤ maxLen) (len : Nat) (hl : len ≤ row.xs.length) :
    TRel (w.alloc (.cells cur e)) G (S.addRow row).rows (gs.add S.rows.length (some w.heap.size) R) (.vw S.rows.length 0 len) (.slice (some ⟨w.heap.size, 0, none⟩) len cap) [] := by
  have e1 : ((gs.add S.rows.length (some w.heap.size) R) S.rows.length).1 = some w.heap.size := by simp [Gh.add]
  have hr : rowAt (S.addRow row).rows S.rows.length = some row := by
    show rowAt (S.rows ++ [some row]) S.rows.length = _
    rw [rowAt_push, if_pos rfl]
  have := TRel.vw (w := w.alloc (.cells cur e)) (G := G) (rows := (S.addRow row).rows) (gs := gs.add S.rows.length (some w.heap.size) R) (off := 0) (len := len) (k := 0) hr e1 (by omega) (heap_alloc_self w _) hs hm hlen (.inl (by simp))
  simpa using this
theorem addRow_pt {R : List Nat} {row : Row} {cur : Array Value} {e : TypeId} :
    TRel (w.alloc (.cells cur e)) G (S.addRow row).rows (gs.add S.rows.length (some w.heap.size) R) (.pt S.rows.length 0 0) (.pointer (some ⟨w.heap.size, 0, none⟩)) [] := by
  have e1 : ((gs.add S.rows.length (some w.heap.size) R) S.rows.length).1 = some w.heap.size := by simp [Gh.add]
  have hr : rowAt (S.addRow row).rows S.rows.length = some row := by
    show rowAt (S.rows ++ [some row]) S.rows.length = _
    rw [rowAt_push, if_pos rfl]
  exact TRel.pt (w := w.alloc (.cells cur e)) (G := G) (rows := (S.addRow row).rows) (gs := gs.add S.rows.length (some w.heap.size) R) (j := 0) (o := 0) (k := 0) hr e1 (by simp)

/-- What may stand in a cell. -/
def okCell : A → Bool
  | .un => false
  | .agg _ => false
  | .tup _ => false
  | .al _ _ => false
  | _ => true
theorem okCell_v {rows : List (Option Row)} {x : A} {v : Value} {F : List Nat} (h : TRel w G rows gs x v F) (hx : okCell x = true) : cellV v = true := by
  cases h with
  | of h => cases h <;> first | assumption | rfl | exact mkFn_cell _ _ | simp [okCell] at hx
  | un => simp [okCell] at hx
  | vw => rfl
  | vwn => rfl
  | pt => rfl
  | agg => simp [okCell] at hx
  | tup => simp [okCell] at hx
  | clo => exact mkFn_cell _ _
  | mp => rfl
  | al => simp [okCell] at hx
theorem okCells_v {rows : List (Option Row)} : ∀ {xs : List A} {vs : List Value} {F : List Nat}, TRelL w G rows gs xs vs F → xs.all okCell = true → ∀ v ∈ vs, cellV v = true
  | _, _, _, .nil, _, v, hv => by simp at hv
  | _, _, _, .cons h hl, hx, v, hv => by
    simp only [List.all_cons, Bool.and_eq_true] at hx
    rcases List.mem_cons.1 hv with rfl | hv
    · exact okCell_v h hx.1
    · exact okCells_v hl hx.2 v hv
theorem cells_rel {rows : List (Option Row)} {x : A} {v : Value} (h : TRel w G rows gs x v []) (hx : x.cells.all okCell = true) : TRelL w G rows gs x.cells v.cells.toList [] := by
  have one : okCell x = true → TRelL w G rows gs [x] v.cells.toList [] := fun ho => by
    have hv := okCell_v h ho
    have : v.cells = #[v] := by cases v <;> simp_all [Value.cells, cellV, Value.oneCell']
    rw [this]
    exact .cons (F := []) (Fs := []) h .nil
  cases x with
  | agg xs =>
    obtain ⟨cs, rfl, hl⟩ := agg_inv h
    exact hl
  | _ => exact one (by simpa [A.cells] using hx)

theorem opOK_row {o : Oper} {K : State → Prop} {row : Row} (x : A) (hK : K ((S.addRow row).put o.dst x))
    (h : ∀ (E : Env P) (G : Nat → Prop) (gs : Gh) (a : Act) (w : World), Inv E G gs S a.tmps w → ∃ (v : Value) (cur : Array Value) (e : TypeId) (cap : Nat), (execOp a.eval o).run P w = .ok (.value v) (w.alloc (.cells cur e)) ∧ cur.size = cap * row.n ∧ CapOK row.lk row.xs.length cap ∧ cap ≤ maxLen ∧
      (∀ x ∈ row.xs, x.width = row.n) ∧ (∀ v ∈ cur.toList.take (row.xs.length * row.n), cellV v = true) ∧ CellsRel row.lk w G S.rows gs (flat row.xs) (cur.toList.take (row.xs.length * row.n)) [] ∧
      TRel (w.alloc (.cells cur e)) G (S.addRow row).rows (gs.add S.rows.length (some w.heap.size) []) x v []) : opOK P o S K := by
  intro E a w next Q hs hn
  obtain ⟨hd, G, gs, hi⟩ := hs
  obtain ⟨v, cur, e, cap, hr, h1, h2, h3, h4, h5, h6, hx⟩ := h E G gs a w hi
  unfold Oper.wp
  rw [hr]
  have hi' := hi.addRow (e := e) Res.nil h1 h2 h3 h4 h5 h6 (by simp)
  exact hn _ _ _ hK ⟨by rw [put_defers]; exact hd, G, _, Inv.put (S := S.addRow row) hi' hx o.dst⟩

theorem one_row_cells {x : A} {cs : List Value} (h : cs.length = x.width) : cs.take ([x].length * x.width) = cs := by
  rw [List.length_singleton, Nat.one_mul, ← h, List.take_length]
theorem flat_one (x : A) : flat [x] = x.cells := by simp [flat]

/-- A variable in memory. -/
theorem opOK_box {o : Oper} {K : State → Prop} {t : TypeId} {x : Operand} (ho : o.op = .box t x) (hx : okO x = true) (hc : (ev S x).cells.all okCell = true)
    (hK : K ((S.addRow ⟨(ev S x).width, [ev S x], true⟩).put o.dst (.pt S.rows.length 0 0))) : opOK P o S K := by
  refine opOK_row (row := ⟨(ev S x).width, [ev S x], true⟩) _ hK fun E G gs a w hi => ?_
  have h1 := ev_rel hi x hx
  have h2 := cells_rel h1 hc
  have hl : (a.eval x).cells.toList.length = (ev S x).width := by rw [h2.length]; rfl
  refine ⟨.pointer (some ⟨w.heap.size, 0, none⟩), (a.eval x).cells, t, 1, ?_, ?_, ⟨Nat.le_refl _, fun _ => rfl⟩, by simp [maxLen], by simp, ?_, ?_, addRow_pt⟩
  · simp [execOp, ho, Instr.box, newVar, newRow]
  · simpa using hl
  · rw [one_row_cells hl]; exact okCells_v h2 hc
  · rw [one_row_cells hl, flat_one]; exact h2
theorem opOK_alloc {o : Oper} {K : State → Prop} {t : TypeId} {z : Value} (ho : o.op = .alloc t) (hz : zeroT P t = some z) (hv : okV z = true)
    (hK : K ((S.addRow ⟨(constA z).width, [constA z], true⟩).put o.dst (.pt S.rows.length 0 0))) : opOK P o S K := by
  refine opOK_row (row := ⟨(constA z).width, [constA z], true⟩) _ hK fun E G gs a w hi => ?_
  have h1 : TRel w G S.rows gs (constA z) z [] := .of (rel_constA hv)
  have hc : (constA z).cells.all okCell = true := by
    have hcell : ∀ v, okCell (cellA v) = true := fun v => by unfold cellA; split <;> rfl
    unfold constA
    split
    · simp [A.cells, hcell]
    · rename_i hne
      have : (cellA z).cells = [cellA z] := by
        unfold cellA; split <;> rfl
      rw [this]; simp [hcell]
  have h2 := cells_rel h1 hc
  have hl : z.cells.toList.length = (constA z).width := by rw [h2.length]; rfl
  refine ⟨.pointer (some ⟨w.heap.size, 0, none⟩), z.cells, t, 1, ?_, ?_, ⟨Nat.le_refl _, fun _ => rfl⟩, by simp [maxLen], by simp, ?_, ?_, addRow_pt⟩
  · simp [execOp, ho, Instr.alloc, run_zero hz, newVar, newRow]
  · simpa using hl
  · rw [one_row_cells hl]; exact okCells_v h2 hc
  · rw [one_row_cells hl, flat_one]; exact h2
end
end Go.Fw

/- More operations: structs as values, strings, slices. Plain theorems, no condition. -/
set_option linter.unusedVariables false
set_option linter.unusedSimpArgs false
namespace Go.Fw

section
variable {P : Program} {E : Env P} {G : Nat → Prop} {gs : Gh} {S : State} {a : Act} {w : World} {tmps : Array Value}

theorem fieldT_inv {t : TypeId} {i off s : Nat} {g : Bool} (h : fieldT P t i = some (off, s, g)) :
    ∃ fs f, P.underlying t = some (.struct fs) ∧ fs[i]? = some f ∧ f.offset = off ∧ szT P f.type = some s ∧ aggT P f.type = some g := by
  unfold fieldT at h
  split at h <;> try simp at h
  rename_i fs hu
  split at h <;> try simp at h
  rename_i f hfi
  split at h <;> try simp at h
  rename_i s' g' hsz hag
  obtain ⟨h1, h2, h3⟩ := h
  exact ⟨fs, f, hu, hfi, h1, by rw [hsz, h2], by rw [hag, h3]⟩

theorem VOK_field {o : Oper} {t : TypeId} {x : Operand} {i off s : Nat} {g : Bool} {xs : List A} (ho : o.op = .field t x i) (hx : okO x = true) (he : ev S x = .agg xs)
    (hf : fieldT P t i = some (off, s, g)) (hl : off + s ≤ xs.length) (hs : g = false → s = 1)
    : VOK P o S (if g then .agg ((xs.drop off).take s) else xs.getD off .un) := by
  refine fun E G gs a w hi => ?_
  have h1 := ev_rel hi x hx
  rw [he] at h1
  obtain ⟨cs, hv, hr⟩ := agg_inv h1
  obtain ⟨fs, f, hu, hfi, hoff, hsz, hag⟩ := fieldT_inv hf
  have hlen := hr.length
  cases g with
  | true =>
    refine ⟨.agg ((cs.toList.drop off).take s).toArray, ?_, .agg ((hr.drop0 off).take0 s)⟩
    intro w' hw'
    simp [execOp, ho, hv, Instr.field, run_underlying hu, hfi, asAgg, part, run_isAgg hag, run_sizeOf hsz, hoff]
    apply Array.ext'
    simp [List.extract_eq_take_drop]
  | false =>
    have h1 := hs rfl
    have hlt : off < xs.length := by omega
    obtain ⟨v, hv1, hv2⟩ := hr.get off (xs.getD off .un) (by simp [List.getD_eq_getElem?_getD, List.getElem?_eq_getElem hlt])
    have hv1' : cs[off]? = some v := by simpa using hv1
    refine ⟨v, ?_, by simpa using hv2⟩
    intro w' hw'
    simp [execOp, ho, hv, Instr.field, run_underlying hu, hfi, asAgg, part, run_isAgg hag, hoff, hv1']

theorem VOK_extract {o : Oper} {x : Operand} {i : Nat} {xs : List A} {z : A} (ho : o.op = .extract x i) (hx : okO x = true) (he : ev S x = .tup xs) (hz : xs[i]? = some z)
    : VOK P o S z := by
  refine fun E G gs a w hi => ?_
  have h1 := ev_rel hi x hx
  rw [he] at h1
  obtain ⟨cs, hv, hr⟩ := tup_inv h1
  obtain ⟨v, hv1, hv2⟩ := hr.get i z hz
  have hv1' : cs[i]? = some v := by simpa using hv1
  exact ⟨v, fun w' hw' => by simp [execOp, ho, hv, Instr.extract, hv1'], hv2⟩

theorem VOK_nilCheck_pt {o : Oper} {x : Operand} {r j q : Nat} (ho : o.op = .nilCheck x) (hx : okO x = true) (he : ev S x = .pt r j q)
    : VOK P o S (.pt r j q) := by
  refine fun E G gs a w hi => ?_
  have h1 := ev_rel hi x hx
  rw [he] at h1
  obtain ⟨row, b, hr, hb, hv⟩ := pt_inv h1
  exact ⟨_, fun w' hw' => by simp [execOp, ho, hv], hv ▸ h1⟩
theorem VOK_nilCheck_rp {o : Oper} {x : Operand} {xs : List A} (ho : o.op = .nilCheck x) (hx : okO x = true) (he : ev S x = .rp xs)
    : VOK P o S (.rp xs) := by
  refine fun E G gs a w hi => ?_
  have h1 := ev_rel hi x hx
  rw [he] at h1
  obtain ⟨b, k, cur, e, fr, hv, hh, hg, hl⟩ := rp_inv h1
  exact ⟨_, fun w' hw' => by simp [execOp, ho, hv], hv ▸ h1⟩

/-- A struct put together: cells of the zero value, parts laid over them. -/
def fillA (P : Program) (t : TypeId) : List A → List (Nat × A) → Option (List A)
  | cells, [] => some cells
  | cells, (i, x) :: rest =>
    match fieldT P t i with
    | none => none
    | some (off, s, _) =>
      if x.cells.length ≠ s ∨ off + s > cells.length then none
      else fillA P t (cells.take off ++ x.cells ++ cells.drop (off + s)) rest
theorem fold_set : ∀ (vs : List Value) (k j : Nat) (cs : Array Value), k + j + vs.length ≤ cs.size →
    ((vs.zipIdx j).foldl (fun cs (c, j) => cs.setIfInBounds (k + j) c) cs).toList = cs.toList.take (k + j) ++ vs ++ cs.toList.drop (k + j + vs.length)
  | [], k, j, cs, h => by simp
  | v :: vs, k, j, cs, h => by
    simp only [List.zipIdx_cons, List.foldl_cons]
    rw [fold_set vs k (j + 1) _ (by simp at h ⊢; omega)]
    have e := list_seg_step cs.toList (k + j) v vs (by simp at h ⊢; omega)
    rw [Array.toList_setIfInBounds]
    simpa [Nat.add_assoc] using e
theorem fill_rel {rows : List (Option Row)} {t : TypeId} {fs : Array Field} {places : Array (Nat × Nat)} (hu : P.underlying t = some (.struct fs))
    (hp : ∀ i off s g, fieldT P t i = some (off, s, g) → places[i]? = some (off, s)) : ∀ (parts : List (Nat × A)) (vals : List (Nat × Value)) (cells res : List A) (zs : Array Value),
    vals.map (·.1) = parts.map (·.1) → TRelL w G rows gs (parts.map (·.2)) (vals.map (·.2)) [] → (∀ p ∈ parts, p.2.cells.all okCell = true) → TRelL w G rows gs cells zs.toList [] → fillA P t cells parts = some res →
    ∃ cs, Instr.fill (places[·]?) zs vals = some cs ∧ TRelL w G rows gs res cs.toList []
  | [], [], cells, res, zs, _, _, _, hz, hf => by
    simp only [fillA, Option.some.injEq] at hf
    subst hf
    exact ⟨zs, rfl, hz⟩
  | [], _ :: _, _, _, _, he, _, _, _, _ => by simp at he
  | _ :: _, [], _, _, _, he, _, _, _, _ => by simp at he
  | (i, x) :: parts, (i', v) :: vals, cells, res, zs, he, hrel, hok, hz, hf => by
    simp only [List.map_cons, List.cons.injEq] at he hrel
    obtain ⟨rfl, he⟩ := he
    simp only [fillA] at hf
    split at hf
    · simp at hf
    · rename_i off s g hft
      split at hf
      · simp at hf
      · rename_i hc
        have hc1 : x.cells.length = s := by
          rcases Nat.lt_trichotomy x.cells.length s with h | h | h <;> first | exact h | exact absurd (Or.inl (by omega)) hc
        have hc2 : off + s ≤ cells.length := by
          rcases Nat.lt_or_ge cells.length (off + s) with h | h
          · exact absurd (Or.inr h) hc
          · exact h
        generalize hF : ([] : List Nat) = F at hrel
        cases hrel with
        | cons hx hrest =>
          rename_i F1 F2
          have hF' : F1 = [] ∧ F2 = [] := by simpa using hF.symm
          obtain ⟨rfl, rfl⟩ := hF'
          have hxc := cells_rel hx (hok (i', x) (by simp))
          have hlx : v.cells.size = s := by have := hxc.length; simp at this; omega
          have hlz : zs.size = cells.length := by have := hz.length; simpa using this
          have hpl := hp _ _ _ _ hft
          have hcells : TRelL w G rows gs (cells.take off ++ x.cells ++ cells.drop (off + s)) ((v.cells.zipIdx.foldl (fun cs (c, j) => cs.setIfInBounds (off + j) c) zs).toList) [] := by
            have e := fold_set v.cells.toList off 0 zs (by simp; omega)
            have e2 : (v.cells.zipIdx.foldl (fun cs (c, j) => cs.setIfInBounds (off + j) c) zs) = ((v.cells.toList.zipIdx 0).foldl (fun cs (c, j) => cs.setIfInBounds (off + j) c) zs) := by
              rw [← Array.foldl_toList]; simp
            rw [e2, e]
            refine TRelL.append0 (TRelL.append0 (hz.take0 off) hxc) ?_
            have := hz.drop0 (off + s)
            simpa [hlx] using this
          obtain ⟨cs, h1, h2⟩ := fill_rel hu hp parts vals _ res _ he hrest (fun p hp => hok p (by simp [hp])) hcells hf
          refine ⟨cs, ?_, h2⟩
          simp only [Instr.fill, hpl]
          rw [if_neg (by simp; omega)]
          exact h1

theorem parts_rel (hi : Inv E G gs S a.tmps w) : ∀ (parts : List (Nat × Operand)), (∀ p ∈ parts, okO p.2 = true) →
    TRelL w G S.rows gs ((parts.map fun p => (p.1, ev S p.2)).map (·.2)) ((parts.map fun p => (p.1, a.eval p.2)).map (·.2)) []
  | [], _ => .nil
  | p :: parts, h => .cons (F := []) (Fs := []) (ev_rel hi p.2 (h p (by simp))) (parts_rel hi parts fun q hq => h q (by simp [hq]))
theorem places_of {t : TypeId} {fs : Array Field} {places : List (Nat × Nat)} (hu : P.underlying t = some (.struct fs)) (hm : fs.toList.mapM (fun f => (P.info? f.type).map fun i => (f.offset, i.size)) = some places) :
    ∀ i off s g, fieldT P t i = some (off, s, g) → places.toArray[i]? = some (off, s) := by
  intro i off s g hf
  obtain ⟨fs', f, hu', hfi, hoff, hsz, hag⟩ := fieldT_inv hf
  rw [hu] at hu'
  simp only [Option.some.injEq, TypeDesc.struct.injEq] at hu'
  subst hu'
  have key : ∀ (l : List Field) (places : List (Nat × Nat)), l.mapM (fun f => (P.info? f.type).map fun i => (f.offset, i.size)) = some places → ∀ i : Nat, l[i]? = some f → places[i]? = some (off, s) := by
    intro l
    induction l with
    | nil => intro places h i hi; simp at hi
    | cons f0 l ih =>
      intro places h i hi
      simp only [List.mapM_cons, Option.bind_eq_bind, Option.pure_def] at h
      cases h0 : P.info? f0.type with
      | none => simp [h0] at h
      | some i0 =>
        cases hr : l.mapM (fun f => (P.info? f.type).map fun i => (f.offset, i.size)) with
        | none => simp [h0, hr] at h
        | some rest =>
          simp [h0, hr] at h
          subst h
          cases i with
          | zero =>
            simp at hi
            subst hi
            simp only [szT, h0, Option.map_some, Option.some.injEq] at hsz
            simp [hoff, hsz]
          | succ i => simpa using ih rest hr i (by simpa using hi)
  simpa using key fs.toList places hm i (by simpa using hfi)
/-- All fields' sizes are known. -/
def placesT (P : Program) (t : TypeId) : Bool :=
  match P.underlying t with
  | some (.struct fs) => (fs.toList.mapM (fun f => (P.info? f.type).map fun i => (f.offset, i.size))).isSome
  | _ => false
theorem VOK_build {o : Oper} {t : TypeId} {parts : Array (Nat × Operand)} {z : Array Value} {res : List A} (ho : o.op = .build t parts) (hx : ∀ p ∈ parts.toList, okO p.2 = true)
    (hz : zeroT P t = some (.agg z)) (hzv : okV (.agg z) = true) (hpl : placesT P t = true) (hok : ∀ p ∈ parts.toList, (ev S p.2).cells.all okCell = true)
    (hf : fillA P t (z.toList.map cellA) (parts.toList.map fun p => (p.1, ev S p.2)) = some res) : VOK P o S (.agg res) := by
  refine fun E G gs a w hi => ?_
  unfold placesT at hpl
  split at hpl <;> try simp at hpl
  rename_i fs hu
  obtain ⟨places, hm⟩ := Option.isSome_iff_exists.1 hpl
  have h0 : TRelL w G S.rows gs (z.toList.map cellA) z.toList [] := .of (relL_cells _ hzv)
  obtain ⟨cs, h1, h2⟩ := fill_rel hu (places_of hu hm) _ (parts.toList.map fun p => (p.1, a.eval p.2)) _ res z (by simp [Function.comp_def]) (parts_rel hi parts.toList hx)
    (fun p hp => by obtain ⟨q, hq, rfl⟩ := List.mem_map.1 hp; exact hok q hq) h0 hf
  have hb : P.built t (parts.map fun (i, x) => (i, a.eval x)).toList = some cs := by
    unfold zeroT at hz
    cases hit : P.info? t with
    | none => simp [hit] at hz
    | some it =>
      simp only [hit, Option.bind_some] at hz
      have e : (parts.map fun (i, x) => (i, a.eval x)).toList = parts.toList.map fun p => (p.1, a.eval p.2) := by simp
      rw [e]
      simp only [Program.built, hit, hu, hz, hm]
      exact h1
  refine ⟨.agg cs, ?_, by simpa using TRel.agg h2⟩
  have hr := fun w => run_build (P := P) w t (parts.map fun (i, x) => (i, a.eval x)) cs hb
  intro w' hw'
  simp [execOp, ho, hr]

/-- A byte of a string. -/
theorem VOK_index {o : Oper} {t : TypeId} {x y : Operand} {s : ByteArray} {k : IntKind} {i : Int} {c : UInt8} (ho : o.op = .index t x y) (hx : okO x = true) (hy : okO y = true)
    (h1 : ev S x = .sc (.string s)) (h2 : ev S y = .sc (.int k i)) (ht : isStrT P t = true) (h0 : 0 ≤ i) (hc : (bs s)[i.toNat]? = some c) : VOK P o S (.sc (.int .u8 (c.toNat : Int))) := by
  refine fun E G gs a w hi => ⟨_, ?_, .of (.sc rfl)⟩
  have e1 := ev_rel hi x hx
  have e2 := ev_rel hi y hy
  rw [h1] at e1
  rw [h2] at e2
  have v1 := (sc_inv e1).1
  have v2 := (sc_inv e2).1
  have hu : P.underlying t = some .string := by
    unfold isStrT at ht
    split at ht
    · assumption
    · simp at ht
  have hget : s[i.toNat]? = some c := by
    have hlt : i.toNat < s.size := by
      rcases Nat.lt_or_ge i.toNat (bs s).length with h | h
      · rwa [bs_length] at h
      · rw [List.getElem?_eq_none h] at hc; simp at hc
    rw [getElem?_pos s i.toNat hlt]
    rw [List.getElem?_eq_getElem (by rw [bs_length]; exact hlt)] at hc
    simp only [bs, Array.getElem_toList] at hc
    exact hc
  intro w' hw'
  simp [execOp, ho, v1, v2, Instr.index, run_underlying hu, asIntOf, h0, hget]

def bnd : Option A → Nat → Option Int
  | none, d => some (d : Int)
  | some (.sc (.int _ n)), _ => some n
  | _, _ => none
theorem slice_bounds {rows : List (Option Row)} (lo hi : Option Value) (alo ahi : Option A) {isS : Bool} {len cap : Nat} {l h : Nat}
    (hlo : bnd alo 0 = some (l : Int)) (hhi : bnd ahi len = some (h : Int)) (rlo : ∀ x, alo = some x → ∃ v, lo = some v ∧ TRel w G rows gs x v []) (rlo' : alo = none → lo = none)
    (rhi : ∀ x, ahi = some x → ∃ v, hi = some v ∧ TRel w G rows gs x v []) (rhi' : ahi = none → hi = none) (hlh : l ≤ h) (hhl : h ≤ len) (hcap : len ≤ cap) :
    ∀ w' : World, (Instr.sliceBounds isS len cap lo hi none).run P w' = .ok (l, h, cap) w' := by
  intro w'
  have sb : ∀ (k : IntKind) (n : Nat) (y : Nat) (code : BoundsCode), n ≤ y → (Instr.sliceBound (.int k (n : Int)) y code).run P w' = .ok n w' := by
    intro k n y code hy
    have : ((n : Int) ≤ (y : Int)) := by omega
    simp [Instr.sliceBound, asIntOf, this]
  have hH : (match hi with
      | some v => Instr.sliceBound v cap (if isS then .sliceAcap else .sliceAlen)
      | none => (pure len : Sem Nat)).run P w' = .ok h w' := by
    cases ahi with
    | none =>
      rw [rhi' rfl]
      simp only [bnd, Option.some.injEq] at hhi
      have : len = h := by omega
      simp [this]
    | some x =>
      obtain ⟨v, rfl, hx⟩ := rhi x rfl
      cases x <;> simp [bnd] at hhi
      rename_i u
      cases u <;> simp [bnd] at hhi
      subst hhi
      obtain ⟨rfl, _⟩ := sc_inv hx
      exact sb _ _ _ _ (by omega)
  have hL : (match lo with
      | some v => Instr.sliceBound v h (if (none : Option Value).isSome then .slice3C else .sliceB)
      | none => (pure 0 : Sem Nat)).run P w' = .ok l w' := by
    cases alo with
    | none =>
      rw [rlo' rfl]
      simp only [bnd, Option.some.injEq] at hlo
      have : l = 0 := by omega
      simp [this]
    | some x =>
      obtain ⟨v, rfl, hx⟩ := rlo x rfl
      cases x <;> simp [bnd] at hlo
      rename_i u
      cases u <;> simp [bnd] at hlo
      subst hlo
      obtain ⟨rfl, _⟩ := sc_inv hx
      exact sb _ _ _ _ (by omega)
  unfold Instr.sliceBounds
  cases hi <;> cases lo <;> simp_all
end
end Go.Fw

/- Slicing; making slices; what is on its way into memory. Plain theorems, no condition. -/
set_option linter.unusedVariables false
set_option linter.unusedSimpArgs false
namespace Go.Fw

section
variable {P : Program} {E : Env P} {G : Nat → Prop} {gs : Gh} {S : State} {a : Act} {w : World} {tmps : Array Value}

def okOpt : Option Operand → Bool
  | none => true
  | some x => okO x
theorem opt_rel (hi : Inv E G gs S a.tmps w) (x : Option Operand) (hx : okOpt x = true) : (∀ y, x.map (ev S) = some y → ∃ v, x.map a.eval = some v ∧ TRel w G S.rows gs y v []) ∧ (x.map (ev S) = none → x.map a.eval = none) := by
  cases x with
  | none => exact ⟨by simp, by simp⟩
  | some x => exact ⟨fun y hy => ⟨_, rfl, by simp at hy; subst hy; exact ev_rel hi x hx⟩, by simp⟩

theorem VOK_slice_str {o : Oper} {t : TypeId} {x : Operand} {lo hi : Option Operand} {s : ByteArray} {l h : Nat} (ho : o.op = .slice t x lo hi none) (hx : okO x = true) (hlo : okOpt lo = true) (hhi : okOpt hi = true)
    (ht : isStrT P t = true) (he : ev S x = .sc (.string s)) (h1 : bnd (lo.map (ev S)) 0 = some (l : Int)) (h2 : bnd (hi.map (ev S)) (bs s).length = some (h : Int)) (hlh : l ≤ h) (hhl : h ≤ (bs s).length)
    : VOK P o S (.sc (.string (mkS (((bs s).take h).drop l)))) := by
  refine fun E G gs a w hinv => ⟨_, ?_, .of (.sc rfl)⟩
  have e1 := ev_rel hinv x hx
  rw [he] at e1
  have v1 := (sc_inv e1).1
  have hu : P.underlying t = some .string := by
    unfold isStrT at ht
    split at ht
    · assumption
    · simp at ht
  obtain ⟨a1, a2⟩ := opt_rel hinv lo hlo
  obtain ⟨b1, b2⟩ := opt_rel hinv hi hhi
  rw [bs_length] at h2 hhl
  have hb := slice_bounds (P := P) (isS := false) (lo.map a.eval) (hi.map a.eval) _ _ h1 h2 a1 a2 b1 b2 hlh hhl (Nat.le_refl _)
  have e : s.extract l h = mkS (((bs s).take h).drop l) := by
    apply ByteArray.ext
    apply Array.ext'
    simp [mkS, bs, ByteArray.data_extract, List.extract_eq_take_drop, List.drop_take]
  intro w' hw'
  simp [execOp, ho, v1, Instr.sliceAt, run_underlying hu, Instr.slice, hb, e]

theorem VOK_slice_vw {o : Oper} {t e : TypeId} {x : Operand} {lo hi : Option Operand} {r off len : Nat} {row : Row} {l h : Nat} (ho : o.op = .slice t x lo hi none) (hx : okO x = true) (hlo : okOpt lo = true) (hhi : okOpt hi = true)
    (he : ev S x = .vw r off len) (hr : rowAt S.rows r = some row) (ht : elemT P t = some e) (hs : szT P e = some row.n) (h1 : bnd (lo.map (ev S)) 0 = some (l : Int)) (h2 : bnd (hi.map (ev S)) len = some (h : Int)) (hlh : l ≤ h) (hhl : h ≤ len)
    : VOK P o S (.vw r (off + l) (h - l)) := by
  refine fun E G gs a w hinv => ?_
  have e1 := ev_rel hinv x hx
  rw [he] at e1
  obtain ⟨a1, a2⟩ := opt_rel hinv lo hlo
  obtain ⟨b1, b2⟩ := opt_rel hinv hi hhi
  rcases vw_inv e1 with ⟨row', k, cap, cur, et, b, hr', hob, g1, g2, g3, g4, g5, g6, hv⟩ | ⟨row', hr', hob, hx0, rfl, rfl, hv⟩
  case inr =>
    have : l = 0 := by omega
    subst this
    have : h = 0 := by omega
    subst this
    have hb := slice_bounds (P := P) (isS := true) (lo.map a.eval) (hi.map a.eval) _ _ h1 h2 a1 a2 b1 b2 (by omega) (by simp) (cap := 0) (by simp)
    refine ⟨.slice none 0 0, ?_, .vwn hr' (vw_nil e1 hob) hx0⟩
    intro w' hw'
    simp [execOp, ho, hv, Instr.sliceAt, run_underlying (elemT_inv ht), Instr.slice, hb, run_sizeOf hs]
  rw [hr] at hr'
  obtain rfl := Option.some.inj hr'
  have hb := slice_bounds (P := P) (isS := true) (lo.map a.eval) (hi.map a.eval) _ _ h1 h2 a1 a2 b1 b2 hlh hhl (cap := cap - off) (by omega)
  have hu := elemT_inv ht
  have hcap : cap - off - l = cap - (off + l) := by omega
  refine ⟨.slice (some ⟨b, if cap - off = l then k else k + l * row.n, none⟩) (h - l) (cap - (off + l)), ?_, .vw hr hob (by omega) g2 g3 g4 g5 ?_⟩
  · intro w' hw'
    simp [execOp, ho, hv, Instr.sliceAt, run_underlying hu, Instr.slice, hb, run_sizeOf hs, hcap]
    split <;> simp [add_none]
  · split
    · rcases Nat.eq_zero_or_pos l with h0 | h0
      · subst h0
        rcases g6 with g6 | g6
        · left; simpa using g6
        · right; omega
      · right; omega
    · rcases g6 with g6 | g6
      · left; rw [g6, Nat.add_mul]
      · right; omega

theorem VOK_slice_sl {o : Oper} {t e : TypeId} {x : Operand} {lo hi : Option Operand} {n : Nat} {xs : List A} {l h : Nat} (ho : o.op = .slice t x lo hi none) (hx : okO x = true) (hlo : okOpt lo = true) (hhi : okOpt hi = true)
    (he : ev S x = .sl false n xs) (ht : elemT P t = some e) (hs : szT P e = some n) (h1 : bnd (lo.map (ev S)) 0 = some (l : Int)) (h2 : bnd (hi.map (ev S)) xs.length = some (h : Int)) (hlh : l ≤ h) (hhl : h ≤ xs.length)
    : VOK P o S (.sl false n ((xs.take h).drop l)) := by
  refine fun E G gs a w hinv => ?_
  have e1 := ev_rel hinv x hx
  rw [he] at e1
  obtain ⟨a1, a2⟩ := opt_rel hinv lo hlo
  obtain ⟨b1, b2⟩ := opt_rel hinv hi hhi
  have hu := elemT_inv ht
  rcases slf_inv e1 with ⟨⟨oa, hv⟩, rfl⟩ | ⟨b, k, cap, cur, et, fr, hv, hh, hg, hw, hrel, hcap, hm⟩
  · simp at hhl
    subst hhl
    have : l = 0 := by omega
    subst this
    have hb := slice_bounds (P := P) (isS := true) (lo.map a.eval) (hi.map a.eval) _ _ h1 h2 a1 a2 b1 b2 (by omega) (by simp) (cap := 0) (by simp)
    simp only [List.length_nil] at hb
    refine ⟨.slice oa 0 0, ?_, .of (by cases oa with | none => simpa using Rel.nils | some ad => simpa using Rel.roz)⟩
    intro w' hw'
    cases oa <;>
    simp [execOp, ho, hv, Instr.sliceAt, run_underlying hu, Instr.slice, hb, run_sizeOf hs]
  · have hb := slice_bounds (P := P) (isS := true) (lo.map a.eval) (hi.map a.eval) _ _ h1 h2 a1 a2 b1 b2 hlh hhl hcap
    have hlen : h - l = ((xs.take h).drop l).length := by simp; omega
    refine ⟨.slice (some ⟨b, if cap = l then k else k + l * n, none⟩) (h - l) (cap - l), ?_, .of (.ro hh hg (fun x hx => hw x (List.mem_of_mem_take (List.mem_of_mem_drop hx))) hlen rfl ?_ (by omega) (by omega))⟩
    · intro w' hw'
      simp [execOp, ho, hv, Instr.sliceAt, run_underlying hu, Instr.slice, hb, run_sizeOf hs]
      split <;> simp [add_none]
    · have h3 := (hrel.take0 (h * n)).drop0 (l * n)
      rw [flat_take h hw, flat_drop l (fun x hx => hw x (List.mem_of_mem_take hx))] at h3
      have hle : h * n ≤ xs.length * n := Nat.mul_le_mul_right _ hhl
      have e4 : List.drop (l * n) (List.take (h * n) (List.take (xs.length * n) (cur.toList.drop k))) = (cur.toList.drop (k + l * n)).take ((h - l) * n) := by
        rw [List.take_take, Nat.min_eq_left hle, List.drop_take, List.drop_drop, ← Nat.sub_mul]
      rw [e4] at h3
      split
      · rename_i hc
        have h0 : h - l = 0 := by omega
        rw [h0] at h3 ⊢
        simpa using h3
      · exact h3
/-- make([]T, n). -/
theorem opOK_makeSlice {o : Oper} {K : State → Prop} {t e : TypeId} {x y : Operand} {k k' : IntKind} {n s : Nat} {z : Value} (ho : o.op = .makeSlice t x y) (hx : okO x = true) (hy : okO y = true)
    (h1 : ev S x = .sc (.int k (n : Int))) (h2 : ev S y = .sc (.int k' (n : Int))) (ht : elemT P t = some e) (hs : szT P e = some s) (hz : zeroT P e = some z) (hzv : okV z = true) (hzw : (constA z).width = s) (hsp : 0 < s)
    (hb : bytesT P e * n ≤ 140737488355328) (hm : n ≤ maxLen)
    (hK : K ((S.addRow ⟨s, List.replicate n (constA z), false⟩).put o.dst (.vw S.rows.length 0 n))) : opOK P o S K := by
  refine opOK_row (row := ⟨s, List.replicate n (constA z), false⟩) _ hK fun E G gs a w hi => ?_
  have e1 := ev_rel hi x hx
  have e2 := ev_rel hi y hy
  rw [h1] at e1
  rw [h2] at e2
  have v1 := (sc_inv e1).1
  have v2 := (sc_inv e2).1
  have hu := elemT_inv ht
  unfold szT at hs
  unfold zeroT at hz
  unfold bytesT at hb
  cases hit : P.info? e with
  | none => simp [hit] at hs
  | some it =>
    simp only [hit, Option.map_some, Option.some.injEq] at hs
    simp only [hit, Option.bind_some] at hz
    simp only [hit, Option.map_some, Option.getD_some] at hb
    have hzr : ∀ w' : World, ∀ G', RelL w' G' (constA z).cells z.cells.toList [] := by
      intro w' G'
      have h := rel_constA (w := w') (G := G') hzv
      unfold constA at h ⊢
      split
      · rename_i cs
        simp only at h
        cases h with | agg h => simpa [A.cells, Value.cells] using h
      · rename_i hne
        have hz1 : z.cells = #[z] := by cases z <;> simp_all [Value.cells]
        have hc : (cellA z).cells = [cellA z] := by unfold cellA; split <;> rfl
        rw [hz1, hc]
        refine .cons (F := []) (Fs := []) ?_ .nil
        have : constA z = cellA z := by unfold constA; split <;> simp_all
        split at h <;> simp_all
    have hzl : z.cells.size = s := by have := (hzr w G).length; simp at this; rw [this]; exact hzw
    have hbb : (it.bytes : Int) * (n : Int) ≤ 281474976710656 := by
      have h : ((it.bytes * n : Nat) : Int) ≤ 281474976710656 := by omega
      rwa [Int.natCast_mul] at h
    have hr := run_make (P := P) w t e it z hu hit hz k k' n n (by omega) (by omega) hbb (by simp [maxLen] at hm; omega)
    have hmade : (madeCells z.cells (n * s)).toList = (List.replicate n z.cells.toList).flatten := by
      apply List.ext_getElem?
      intro i
      have hsz : z.cells.toList.length = s := by simpa using hzl
      by_cases hi' : i < n * s
      · have hlen : (List.replicate n z.cells.toList).flatten.length = n * s := by simp [List.length_flatten, hsz]
        have hq : i / s < n := (Nat.div_lt_iff_lt_mul hsp).2 hi'
        have key : ∀ (m : Nat) (j : Nat), j < m * s → (List.replicate m z.cells.toList).flatten[j]? = z.cells.toList[j % s]? := by
          intro m
          induction m with
          | zero => intro j hj; omega
          | succ m ih =>
            intro j hj
            rw [List.replicate_succ, List.flatten_cons]
            by_cases hjs : j < s
            · rw [List.getElem?_append_left (by omega), Nat.mod_eq_of_lt hjs]
            · rw [List.getElem?_append_right (by omega), hsz, ih (j - s) (by rw [Nat.add_mul] at hj; omega), ← Nat.mod_eq_sub_mod (by omega)]
        rw [key n i hi']
        have hmod : i % s < s := Nat.mod_lt _ hsp
        have hmz : i % z.cells.size < z.cells.size := by rw [hzl]; exact hmod
        simp [madeCells, hi', hzl]
        rw [getElem!_pos z.cells (i % s) (by omega)]
        rw [Array.getElem?_eq_getElem (by omega)]
      · rw [List.getElem?_eq_none (by simp [madeCells]; omega), List.getElem?_eq_none (by simp [List.length_flatten, hsz]; omega)]
    have hflat : flat (List.replicate n (constA z)) = (List.replicate n (constA z).cells).flatten := by
      simp [flat, List.flatMap_replicate]
    have hrl : ∀ m : Nat, RelL w G (List.replicate m (constA z).cells).flatten (List.replicate m z.cells.toList).flatten [] := by
      intro m
      induction m with
      | zero => exact .nil
      | succ m ih =>
        rw [List.replicate_succ, List.replicate_succ, List.flatten_cons, List.flatten_cons]
        exact RelL.append (hzr w G) ih
    have hsize : (madeCells z.cells (n * s)).size = n * s := size_madeCells _ _
    have htake : (madeCells z.cells (n * s)).toList.take (n * s) = (List.replicate n z.cells.toList).flatten := by
      rw [List.take_of_length_le (by simp [hsize]), hmade]
    refine ⟨.slice (some ⟨w.heap.size, 0, none⟩) n n, madeCells z.cells (n * s), e, n, ?_, hsize, by simp, hm, ?_, ?_, ?_, ?_⟩
    · simp only [Int.toNat_natCast, hs] at hr
      simp [execOp, ho, v1, v2, hr]
    · intro x hx
      obtain ⟨_, rfl⟩ := List.mem_replicate.1 hx
      exact hzw
    · intro v hv
      simp only [List.length_replicate] at hv
      rw [htake] at hv
      have hz1 : ∀ v ∈ z.cells.toList, cellV v = true := by
        intro v hv
        cases z with
        | agg zs => exact List.all_eq_true.1 hzv v hv
        | tuple zs => simp [okV] at hzv
        | _ => simp only [Value.cells, List.mem_singleton] at hv; subst hv; rfl
      obtain ⟨l, hl, hv⟩ := List.mem_flatten.1 hv
      obtain ⟨_, rfl⟩ := List.mem_replicate.1 hl
      exact hz1 v hv
    · simp only [List.length_replicate]
      rw [htake, hflat]
      exact hrl n
    · exact addRow_vw hsize (by simp) hm n (by simp)
end
end Go.Fw

/- What goes into memory for good; writing; growing. Plain theorems, no condition. -/
set_option linter.unusedVariables false
set_option linter.unusedSimpArgs false
namespace Go.Fw

theorem rowAt_set (rows : List (Option Row)) (q : Nat) (x : Option Row) (r : Nat) (hq : q < rows.length) : rowAt (rows.set q x) r = if r = q then x else rowAt rows r := by
  unfold rowAt
  rw [List.getElem?_set]
  by_cases h : q = r
  · subst h; simp [hq]
  · rw [if_neg h, if_neg (fun e => h e.symm)]
theorem killRows_length (q : Nat) (rows : List (Option Row)) : (killRows q rows).length = rows.length := by simp [killRows]

/-- Row q is another one, or none: what led into it is forgotten. -/
def State.turn (S : State) (q : Nat) (x : Option Row) : State := ⟨killT q S.t, S.N, (killRows q S.rows).set q x⟩
def State.setRow (S : State) (q : Nat) (x : Row) : State := { S with rows := S.rows.set q (some x) }

section
variable {P : Program} {E : Env P} {G : Nat → Prop} {gs : Gh} {S : State} {a : Act} {w : World} {tmps : Array Value}

theorem rowAt_turn {q r : Nat} {row : Row} {x : Option Row} (hq : rowAt S.rows q = some row) : rowAt (S.turn q x).rows r = if r = q then x else (rowAt S.rows r).map (killRow q) := by
  show rowAt ((killRows q S.rows).set q x) r = _
  rw [rowAt_set _ _ _ _ (by rw [killRows_length]; exact rowAt_lt hq), rowAt_killRows]

theorem Inv.turn (hi : Inv E G gs S tmps w) {q : Nat} {row : Row} (hq : rowAt S.rows q = some row) {w' : World} {x : Option Row} {ob : Option Nat} {F : List Nat}
    (hos : w'.os = w.os) (htape : w'.tape = w.tape) (hout : w'.output = w.output) (hsize : w.heap.size ≤ w'.heap.size) (hold : ∀ b, b < w.heap.size → b ∉ gs.all q → w'.heap[b]? = w.heap[b]?)
    (hnod : (ob.toList ++ F).Nodup) (hown : ∀ b ∈ ob.toList ++ F, ¬ G b ∧ (E.Fin b ∨ E.w0.heap.size ≤ b)) (hdis : ∀ r row', r ≠ q → rowAt S.rows r = some row' → ∀ b ∈ gs.all r, b ∉ ob.toList ++ F)
    (hx : ∀ row', x = some row' → row'.lk = false ∧ ∀ rows' gs', RowRel w' G rows' gs' row' ob F) :
    Inv E G (gs.add q ob F) (S.turn q x) tmps w' := by
  have hqn : ∀ b, G b → b ∉ gs.all q := fun b hb h => (hi.own q row hq b h).1 hb
  have hG : ∀ b, G b → G b ∧ w'.heap[b]? = w.heap[b]? := fun b hb => ⟨hb, hold b (hi.glt b hb) (hqn b hb)⟩
  have hblk : ∀ r row', r ≠ q → rowAt S.rows r = some row' → ∀ c ∈ gs.all r, w'.heap[c]? = w.heap[c]? := fun r row' hne hr c hc =>
    hold c (hi.block_lt hr c hc) (hi.dis r q row' row hr hq hne c hc)
  have hgs : ∀ r, r ≠ q → (gs.add q ob F) r = gs r := fun r hr => by simp [Gh.add, hr]
  have hself : (gs.add q ob F) q = (ob, F) := by simp [Gh.add]
  have hall0 : (gs.add q ob F).all q = ob.toList ++ F := by simp [Gh.all, hself]
  have hall : ∀ r, r ≠ q → (gs.add q ob F).all r = gs.all r := fun r hr => by simp only [Gh.all, hgs r hr]
  have hle : ∀ r, r ≠ q → RowLe w w' S.rows (S.turn q x).rows gs (gs.add q ob F) r := fun r hne => ⟨fun row' hr => by
    refine ⟨killRow q row', ?_, by rw [hgs r hne], killRow_n _ _, killRow_len _ _, fun b cur e hb hh => ⟨cur, e, ?_, rfl⟩⟩
    · rw [rowAt_turn hq, if_neg hne, hr]; rfl
    · rw [hblk r row' hne hr b (by simp [Gh.all, hb])]; exact hh, fun _ _ _ => hgs r hne⟩
  have hcase : ∀ r row', rowAt (S.turn q x).rows r = some row' → (r = q ∧ x = some row') ∨ (r ≠ q ∧ ∃ row0, rowAt S.rows r = some row0 ∧ row' = killRow q row0) := fun r row' hr => by
    rw [rowAt_turn hq] at hr
    split at hr
    · rename_i h; exact .inl ⟨h, hr⟩
    · rename_i h
      obtain ⟨row0, h1, h2⟩ := Option.map_eq_some_iff.1 hr
      exact .inr ⟨h, row0, h1, h2.symm⟩
  refine ⟨fun b hb hf => ?_, hos.trans hi.os, htape.trans hi.tape, hout.trans hi.output, Nat.le_trans hi.size hsize, hi.sz, hi.gsub, hi.gnew, hi.glt.move (fun b h => h) (fun b h => (hG b h).2) (fun b hb => Nat.lt_of_lt_of_le (hi.glt b hb) hsize), fun r row' hr => ?_, fun r row' hr => ?_, fun r row' hr => ?_, fun r r' row' row'' hr hr' hne' => ?_, fun i => ?_⟩
  · rw [hold b (Nat.lt_of_lt_of_le hb hi.size) ?_]
    · exact hi.keep b hb hf
    · intro h
      rcases (hi.own q row hq b h).2 with h | h
      · exact hf h
      · omega
  · rcases hcase r row' hr with ⟨rfl, h⟩ | ⟨hne, row0, hr0, rfl⟩
    · rw [hself]; exact (hx row' h).2 _ _
    · rw [hgs r hne]
      exact (hi.row r row0 hr0).stepK q hG hle (hblk r row0 hne hr0)
  · rcases hcase r row' hr with ⟨rfl, h⟩ | ⟨hne, row0, hr0, rfl⟩
    · rw [hall0]; exact hnod
    · rw [hall r hne]; exact hi.nod r row0 hr0
  · rcases hcase r row' hr with ⟨rfl, h⟩ | ⟨hne, row0, hr0, rfl⟩
    · rw [hall0]; exact hown
    · rw [hall r hne]; exact hi.own r row0 hr0
  · rcases hcase r row' hr with ⟨rfl, h⟩ | ⟨h1, row0, hr0, rfl⟩ <;> rcases hcase r' row'' hr' with ⟨rfl, h'⟩ | ⟨h2, row0', hr0', rfl⟩
    · exact absurd rfl hne'
    · rw [hall0, hall r' h2]
      intro b hb hb'
      exact hdis r' row0' h2 hr0' b hb' hb
    · rw [hall0, hall r h1]
      exact fun b hb => hdis r row0 h1 hr0 b hb
    · rw [hall r h1, hall r' h2]
      exact hi.dis r r' row0 row0' hr0 hr0' hne'
  · show TRel w' G (S.turn q x).rows (gs.add q ob F) (lk (killT q S.t) i) _ []
    rw [lk_killT]
    exact (hi.tmp i).stepK q hG hle (by simp)

/- Plain data: it leads into no own row. -/
mutual
def isData : A → Bool
  | .un => false
  | .vw _ _ _ => false
  | .pt _ _ _ => false
  | .agg xs => isDataL xs
  | .tup xs => isDataL xs
  | .clo _ xs => isDataL xs
  | .sc _ => true
  | .nil => true
  | .sl _ _ _ => true
  | .rp _ => true
  | .bx _ => true
  | .mp _ => false
  | .rmp _ => true
  | .al _ _ => false
def isDataL : List A → Bool
  | [] => true
  | x :: xs => isData x && isDataL xs
end
theorem isDataL_eq : ∀ xs : List A, isDataL xs = xs.all isData
  | [] => rfl
  | x :: xs => by rw [isDataL, isDataL_eq xs]; rfl
theorem isData_un : isData .un = false := rfl
theorem isData_vw (r i l : Nat) : isData (.vw r i l) = false := rfl
theorem isData_pt (r i l : Nat) : isData (.pt r i l) = false := rfl
theorem isData_agg (xs : List A) : isData (.agg xs) = xs.all isData := by rw [isData, isDataL_eq]
theorem isData_tup (xs : List A) : isData (.tup xs) = xs.all isData := by rw [isData, isDataL_eq]
theorem isData_clo (g : Nat) (xs : List A) : isData (.clo g xs) = xs.all isData := by rw [isData, isDataL_eq]
theorem isData_sc (v : Value) : isData (.sc v) = true := rfl
theorem isData_nil : isData .nil = true := rfl
theorem isData_sl (o : Bool) (n : Nat) (xs : List A) : isData (.sl o n xs) = true := rfl
theorem isData_mp (r : Nat) : isData (.mp r) = false := rfl
theorem isData_al (v : Value) (x : A) : isData (.al v x) = false := rfl
theorem isData_rp (xs : List A) : isData (.rp xs) = true := rfl
theorem isData_bx (xs : List A) : isData (.bx xs) = true := rfl
theorem TRel.data {rows : List (Option Row)} {x : A} {v : Value} {F : List Nat} (h : TRel w G rows gs x v F) (hx : isData x = true) : Rel w G x v F := by
  refine TRel.rec (motive_1 := fun x v F _ => isData x = true → Rel w G x v F) (motive_2 := fun xs vs F _ => xs.all isData = true → RelL w G xs vs F) ?_ ?_ ?_ ?_ ?_ ?_ ?_ ?_ ?_ ?_ ?_ ?_ h hx
  · intro v hx; simp [isData_un] at hx
  · intro x v F h _; exact h
  · intro r off len k cap b row cur e _ _ _ _ _ _ _ _ hx; simp [isData_vw] at hx
  · intro r row _ _ _ hx; simp [isData_vw] at hx
  · intro r j o k b row _ _ _ hx; simp [isData_pt] at hx
  · intro xs cs F hl ih hx; exact .agg (ih (by rwa [isData_agg] at hx))
  · intro xs cs F hl ih hx; exact .tup (ih (by rwa [isData_tup] at hx))
  · intro g caps cs F hl ih hx; exact .clo (ih (by rwa [isData_clo] at hx))
  · intro r b row _ _ hx; simp [isData_mp] at hx
  · intro x v F _ _ hx; simp [isData_al] at hx
  · intro _; exact .nil
  · intro x v F xs vs Fs h hl ih ih' hx
    simp only [List.all_cons, Bool.and_eq_true] at hx
    exact .cons (ih hx.1) (ih' hx.2)
theorem TRelL.data {rows : List (Option Row)} : ∀ {xs : List A} {vs : List Value} {F : List Nat}, TRelL w G rows gs xs vs F → xs.all isData = true → RelL w G xs vs F
  | _, _, _, .nil, _ => .nil
  | _, _, _, .cons h hl, hx => by
    simp only [List.all_cons, Bool.and_eq_true] at hx
    exact .cons (h.data hx.1) (hl.data hx.2)

/-- A value on its way into memory: an own row that it leads to goes with it. -/
def stash1 (S : State) : A → Prop × A × State × List Nat
  | .vw r off len => match rowAt S.rows r with
    | some row => (off = 0 ∧ len ≤ row.xs.length ∧ row.lk = false, .sl true row.n (row.xs.take len), S.turn r none, [r])
    | none => (False, .un, S, [])
  | .pt r j q => match rowAt S.rows r with
    | some row => (j = 0 ∧ q = 0 ∧ row.xs.length = 1 ∧ row.lk = true ∧ (flat row.xs).all isData = true, .bx (flat row.xs), S.turn r none, [r])
    | none => (False, .un, S, [])
  | x => (isData x = true, x, S, [])
def kills (ks : List Nat) (x : A) : A := ks.foldl (fun x r => kill r x) x
def stashL : State → List A → Prop × List A × State × List Nat
  | S, [] => (True, [], S, [])
  | S, x :: xs =>
    match stash1 S x with
    | (c, y, S1, ks) =>
      match stashL S1 (xs.map (kills ks)) with
      | (c', ys, S2, ks') => (c ∧ c', y :: ys, S2, ks ++ ks')
termination_by _ xs => xs.length

structure Stashed (E : Env P) (G : Nat → Prop) (gs : Gh) (S S' : State) (tmps : Array Value) (w : World) (R R' : List Nat) (ks : List Nat) : Prop where
  inv : Inv E G gs S' tmps w
  res : Res E G gs S'.rows R'
  lt : (∀ b ∈ R, b < w.heap.size) → ∀ b ∈ R', b < w.heap.size
  step : ∀ x v, TRel w G S.rows gs x v [] → TRel w G S'.rows gs (kills ks x) v []
  rows : ∀ r row, r ∉ ks → rowAt S.rows r = some row → row.lk = false → rowAt S'.rows r = some row
  len : S'.rows.length = S.rows.length
theorem Gh.add_self (gs : Gh) (q : Nat) : gs.add q (gs q).1 (gs q).2 = gs := by
  funext i
  unfold Gh.add
  split
  · rename_i h; subst h; rfl
  · rfl
theorem stash_turn (hi : Inv E G gs S tmps w) {R : List Nat} (hR : Res E G gs S.rows R) {r : Nat} {row : Row} (hr : rowAt S.rows r = some row) {F : List Nat} (hsub : F.Sublist (gs.all r)) : Stashed E G gs S (S.turn r none) tmps w R (F ++ R) [r] := by
  have hturn : Inv E G gs (S.turn r none) tmps w := by
    have := hi.turn (w' := w) (x := none) (ob := (gs r).1) (F := (gs r).2) hr rfl rfl rfl (Nat.le_refl _) (fun _ _ _ => rfl) (hi.nod r row hr) (hi.own r row hr)
      (fun r' row' hne hr' b hb => hi.dis r' r row' row hr' hr hne b hb) (by simp)
    rwa [Gh.add_self] at this
  refine ⟨hturn, ⟨?_, ?_, ?_⟩, ?_, ?_, ?_, ?_⟩
  · exact List.nodup_append.2 ⟨(hi.nod r row hr).sublist hsub, hR.nod, fun b hb c hc e => by subst e; exact hR.dis r row hr b (hsub.subset hb) hc⟩
  · intro b hb
    rcases List.mem_append.1 hb with hb | hb
    · exact hi.own r row hr b (hsub.subset hb)
    · exact hR.own b hb
  · intro r' row' hr' b hb hb'
    rw [rowAt_turn hr] at hr'
    split at hr'
    · simp at hr'
    · rename_i hne
      obtain ⟨row0, h1, _⟩ := Option.map_eq_some_iff.1 hr'
      rcases List.mem_append.1 hb' with hb' | hb'
      · exact hi.dis r' r row0 row h1 hr hne b hb (hsub.subset hb')
      · exact hR.dis r' row0 h1 b hb hb'
  · intro hlt b hb
    rcases List.mem_append.1 hb with hb | hb
    · exact hi.block_lt hr b (hsub.subset hb)
    · exact hlt b hb
  · intro y u hy
    refine hy.stepK r (fun b hb => ⟨hb, rfl⟩) (fun r' hne => ⟨fun row' hr' => ⟨killRow r row', ?_, rfl, killRow_n _ _, killRow_len _ _, fun b cur e _ hh => ⟨cur, e, hh, rfl⟩⟩, fun _ _ _ => rfl⟩) (by simp)
    rw [rowAt_turn hr, if_neg hne, hr']; rfl
  · intro r' row' hne hr' hlk'
    have : r' ≠ r := fun e => hne (by simp [e])
    rw [rowAt_turn hr, if_neg this, hr']
    simp [killRow, hlk']
  · simp [State.turn, killRows]
theorem stash1_ok (hi : Inv E G gs S tmps w) {R : List Nat} (hR : Res E G gs S.rows R) {x : A} {v : Value} (hx : TRel w G S.rows gs x v []) (hc : (stash1 S x).1) :
    ∃ F, Stashed E G gs S (stash1 S x).2.2.1 tmps w R (F ++ R) (stash1 S x).2.2.2 ∧ Rel w G (stash1 S x).2.1 v F := by
  have plain : isData x = true → ∃ F, Stashed E G gs S S tmps w R (F ++ R) [] ∧ Rel w G x v F := fun hd =>
    ⟨[], ⟨hi, by simpa using hR, fun h => by simpa using h, fun x v h => h, fun r row _ h _ => h, rfl⟩, hx.data hd⟩
  cases x <;> try exact plain hc
  · rename_i r off len
    simp only [stash1] at hc ⊢
    cases hr : rowAt S.rows r with
    | none => simp [hr] at hc
    | some row =>
      simp only [hr] at hc ⊢
      obtain ⟨rfl, hlen, hlk⟩ := hc
      obtain ⟨F, hsub, hrel⟩ : ∃ F : List Nat, F.Sublist (gs.all r) ∧ Rel w G (.sl true row.n (row.xs.take len)) v F := by
        rcases vw_inv hx with ⟨row', k, cap, cur, e, b, hr', hob, g1, g2, g3, g4, g5, g6, rfl⟩ | ⟨row', hr', hob, hxs, _, _, rfl⟩
        · rw [hr] at hr'
          obtain rfl := Option.some.inj hr'
          have hk : k = 0 := by rcases g6 with h | h <;> omega
          subst hk
          have h := hi.row r row hr
          rw [hob] at h
          obtain ⟨cur', e', cap', h1, h2, h3, h4, h5, h6, h7⟩ := h.ex
          rw [g2] at h1
          simp only [Option.some.injEq, Obj.cells.injEq] at h1
          obtain ⟨rfl, rfl, _⟩ := h1
          unfold CellsRel at h7
          rw [if_neg (by simp [hlk])] at h7
          obtain ⟨F1, F2, e1, k1, _⟩ := h7.take_ (len * row.n)
          rw [flat_take len h5] at k1
          have hle : len * row.n ≤ row.xs.length * row.n := Nat.mul_le_mul_right _ hlen
          rw [List.take_take, Nat.min_eq_left hle] at k1
          refine ⟨b :: F1, ?_, .ow g2 (fun x hx => h5 x (List.mem_of_mem_take hx)) (by simp; omega) rfl k1 (by omega) g4 g3 fun v hv => h6 v ?_⟩
          · rw [show gs.all r = b :: (F1 ++ F2) by simp [Gh.all, hob, e1]]
            exact (List.sublist_append_left _ _).cons_cons _
          · have : cur.toList.take (len * row.n) = (cur.toList.take (row.xs.length * row.n)).take (len * row.n) := by rw [List.take_take, Nat.min_eq_left hle]
            rw [this] at hv
            exact List.mem_of_mem_take hv
        · rw [hr] at hr'
          obtain rfl := Option.some.inj hr'
          refine ⟨[], List.nil_sublist _, ?_⟩
          rw [hxs, List.take_nil]
          exact .nils
      exact ⟨F, stash_turn hi hR hr hsub, hrel⟩
  · rename_i r j q
    simp only [stash1] at hc ⊢
    cases hr : rowAt S.rows r with
    | none => simp [hr] at hc
    | some row =>
      simp only [hr] at hc ⊢
      obtain ⟨rfl, rfl, hl1, hlk, hd⟩ := hc
      obtain ⟨row', b, hr', hob, hv⟩ := pt_inv hx
      rw [hr] at hr'
      obtain rfl := Option.some.inj hr'
      have h := hi.row r row hr
      rw [hob] at h
      obtain ⟨cur, e, cap, h1, h2, h3, h4, h5, h6, h7⟩ := h.ex
      have hn : (flat row.xs).length = row.n := by
        match hxs : row.xs, hl1 with
        | [y], _ => rw [hxs] at h5; have := h5 y (by simp); simpa [flat, A.width] using this
      rw [hl1, Nat.one_mul] at h6 h7
      have hrel : RelL w G (flat row.xs) (cur.toList.take row.n) (gs r).2 := by
        unfold CellsRel at h7
        rw [if_pos hlk] at h7
        exact h7.data hd
      refine ⟨b :: (gs r).2, stash_turn hi hR hr (by simp [Gh.all, hob]), ?_⟩
      have hcap : cap = 1 := (h3.one hlk).trans hl1
      have hall : cur.toList.take row.n = cur.toList := by
        rw [List.take_of_length_le]
        rw [Array.length_toList, h2, hcap, Nat.one_mul]
        exact Nat.le_refl _
      rw [hall] at hrel h6
      rw [hv, show 0 * row.n + 0 = 0 by simp]
      exact .bx h1 hrel h6
theorem kills_append (ks ks' : List Nat) (x : A) : kills (ks ++ ks') x = kills ks' (kills ks x) := by simp [kills]
theorem Stashed.trans {S' S'' : State} {R R' R'' : List Nat} {ks ks' : List Nat} (h : Stashed E G gs S S' tmps w R R' ks) (h' : Stashed E G gs S' S'' tmps w R' R'' ks') : Stashed E G gs S S'' tmps w R R'' (ks ++ ks') :=
  ⟨h'.inv, h'.res, fun hl => h'.lt (h.lt hl), fun x v hx => by rw [kills_append]; exact h'.step _ _ (h.step x v hx),
    fun r row hn hr hl => h'.rows r row (fun hm => hn (by simp [hm])) (h.rows r row (fun hm => hn (by simp [hm])) hr hl) hl, h'.len.trans h.len⟩
theorem Stashed.stepL {S' : State} {R R' ks : List Nat} (h : Stashed E G gs S S' tmps w R R' ks) : ∀ (xs : List A) (vs : List Value), TRelL w G S.rows gs xs vs [] → TRelL w G S'.rows gs (xs.map (kills ks)) vs []
  | xs, vs, hl => by
    generalize hF1 : ([] : List Nat) = F1 at hl
    cases hl with
    | nil => rw [← hF1]; exact .nil
    | cons h0 hl =>
      rename_i x v F xs vs Fs
      have hF' : F = [] ∧ Fs = [] := by simpa using hF1.symm
      obtain ⟨rfl, rfl⟩ := hF'
      exact .cons (F := []) (Fs := []) (h.step _ _ h0) (h.stepL xs vs hl)
theorem stashL_ok : ∀ (n : Nat) (xs : List A) (S : State) (vs : List Value) (R : List Nat), xs.length = n → Inv E G gs S tmps w → Res E G gs S.rows R → TRelL w G S.rows gs xs vs [] → (stashL S xs).1 →
    ∃ F, Stashed E G gs S (stashL S xs).2.2.1 tmps w R (F ++ R) (stashL S xs).2.2.2 ∧ RelL w G (stashL S xs).2.1 vs F := by
  intro n
  induction n with
  | zero =>
    intro xs S vs R hn hi hR hx hc
    obtain rfl := List.eq_nil_of_length_eq_zero hn
    have hv : vs = [] := List.eq_nil_of_length_eq_zero (by rw [hx.length]; rfl)
    subst hv
    simp only [stashL]
    exact ⟨[], ⟨hi, by simpa using hR, fun h => by simpa using h, fun x v h => h, fun r row _ h _ => h, rfl⟩, .nil⟩
  | succ n ih =>
    intro xs S vs R hn hi hR hx hc
    cases xs with
    | nil => simp at hn
    | cons x xs =>
      generalize hF0 : ([] : List Nat) = F0 at hx
      cases hx with
      | cons h hl =>
        rename_i v F vs Fs
        have hF' : F = [] ∧ Fs = [] := by simpa using hF0.symm
        obtain ⟨rfl, rfl⟩ := hF'
        rw [stashL] at hc ⊢
        generalize hs1 : stash1 S x = p at hc ⊢
        obtain ⟨c, y, S1, ks⟩ := p
        simp only at hc ⊢
        generalize hs2 : stashL S1 (xs.map (kills ks)) = p2 at hc ⊢
        obtain ⟨c', ys, S2, ks'⟩ := p2
        simp only at hc ⊢
        obtain ⟨F1, hst, hrel⟩ := stash1_ok hi hR h (by rw [hs1]; exact hc.1)
        rw [hs1] at hst hrel
        simp only at hst hrel
        have hrest : TRelL w G S1.rows gs (xs.map (kills ks)) vs [] := hst.stepL xs vs hl
        obtain ⟨F2, hst2, hrel2⟩ := ih (xs.map (kills ks)) S1 vs (F1 ++ R) (by simpa using hn) hst.inv hst.res hrest (by rw [hs2]; exact hc.2)
        rw [hs2] at hst2 hrel2
        simp only at hst2 hrel2
        have hnd : (F2 ++ (F1 ++ R)).Nodup := hst2.res.nod
        refine ⟨F1 ++ F2, ?_, .cons hrel hrel2⟩
        have hperm : ∀ b, b ∈ F1 ++ F2 ++ R ↔ b ∈ F2 ++ (F1 ++ R) := fun b => by
          simp only [List.mem_append]
          constructor
          · rintro ((h | h) | h)
            · exact .inr (.inl h)
            · exact .inl h
            · exact .inr (.inr h)
          · rintro (h | (h | h))
            · exact .inl (.inr h)
            · exact .inl (.inl h)
            · exact .inr h
        have ht := hst.trans hst2
        refine ⟨ht.inv, ⟨?_, fun b hb => ht.res.own b ((hperm b).1 hb), fun r row hr b hb hb' => ht.res.dis r row hr b hb ((hperm b).1 hb')⟩, fun hl b hb => ht.lt hl b ((hperm b).1 hb), ht.step, ht.rows, ht.len⟩
        rw [List.nodup_append] at hnd
        obtain ⟨n1, n2, n3⟩ := hnd
        rw [List.nodup_append] at n2
        obtain ⟨n4, n5, n6⟩ := n2
        rw [List.nodup_append, List.nodup_append]
        exact ⟨⟨n4, n1, fun b hb c hc e => n3 c hc b (by simp [hb]) e.symm⟩, n5, fun b hb c hc e => by
          rcases List.mem_append.1 hb with hb | hb
          · exact n6 b hb c hc e
          · exact n3 b hb c (by simp [hc]) e⟩
end
end Go.Fw

/- Literals of slices, stores, append. Plain theorems, no condition. -/
set_option linter.unusedVariables false
set_option linter.unusedSimpArgs false
namespace Go.Fw

/-- Elements, their cells told anew. -/
def regroup : List A → List A → List A
  | [], _ => []
  | .agg xs :: es, ys => .agg (ys.take xs.length) :: regroup es (ys.drop xs.length)
  | _ :: es, ys => ys.headD .un :: regroup es (ys.drop 1)
theorem regroup_flat : ∀ (es ys : List A), ys.length = (flat es).length → (∀ y ∈ ys, y.cells = [y]) → flat (regroup es ys) = ys
  | [], ys, h, _ => by
    have : ys = [] := List.eq_nil_of_length_eq_zero (by simpa [flat] using h)
    subst this; rfl
  | e :: es, ys, h, hc => by
    rw [flat_cons, List.length_append] at h
    cases e with
    | agg xs =>
      simp only [A.cells] at h
      rw [regroup, flat_cons, regroup_flat es _ (by simp; omega) fun y hy => hc y (List.mem_of_mem_drop hy)]
      simp [A.cells]
    | _ =>
      simp only [A.cells, List.length_singleton] at h
      cases ys with
      | nil => simp at h; omega
      | cons y ys =>
        rw [regroup]
        · rw [flat_cons, regroup_flat es _ (by simp at h ⊢; omega) fun z hz => hc z (by simp at hz; simp [hz])]
          simp [hc y (by simp)]
        all_goals simp
theorem regroup_width {n : Nat} : ∀ (es ys : List A), ys.length = (flat es).length → (∀ y ∈ ys, y.cells = [y]) → (∀ e ∈ es, e.width = n) → ∀ x ∈ regroup es ys, x.width = n
  | [], _, _, _, _, x, hx => by simp [regroup] at hx
  | e :: es, ys, h, hc, hw, x, hx => by
    rw [flat_cons, List.length_append] at h
    have he := hw e (by simp)
    cases e with
    | agg xs =>
      simp only [A.cells] at h
      simp only [A.width, A.cells] at he
      rw [regroup] at hx
      rcases List.mem_cons.1 hx with rfl | hx
      · simp [A.width, A.cells]; omega
      · exact regroup_width es _ (by simp; omega) (fun y hy => hc y (List.mem_of_mem_drop hy)) (fun e he => hw e (by simp [he])) x hx
    | _ =>
      simp only [A.cells, List.length_singleton] at h
      simp only [A.width, A.cells, List.length_singleton] at he
      cases ys with
      | nil => simp at h; omega
      | cons y ys =>
        rw [regroup] at hx
        · rcases List.mem_cons.1 hx with h1 | hx
          · rw [h1]; simp [A.width, hc y (by simp), he]
          · exact regroup_width es _ (by simp at h ⊢; omega) (fun z hz => hc z (by simp at hz; simp [hz])) (fun e he => hw e (by simp [he])) x hx
        all_goals simp
theorem regroup_length : ∀ (es ys : List A), (regroup es ys).length = es.length
  | [], _ => rfl
  | e :: es, ys => by
    cases e <;> simp [regroup, regroup_length es]
theorem okCell_cells {x : A} (h : okCell x = true) : x.cells = [x] := by cases x <;> simp [okCell] at h <;> rfl

section
variable {P : Program} {E : Env P} {G : Nat → Prop} {gs : Gh} {S : State} {a : Act} {w : World} {tmps : Array Value}

theorem stash1_ok_cell {x : A} (h : okCell x = true) (hc : (stash1 S x).1) : okCell (stash1 S x).2.1 = true := by
  cases x <;> simp [okCell] at h <;> try rfl
  · rename_i r off len
    simp only [stash1] at hc ⊢
    split
    · rfl
    · rename_i hn; simp [hn] at hc
  · rename_i r off len
    simp only [stash1] at hc ⊢
    split
    · rfl
    · rename_i hn; simp [hn] at hc
theorem stash1_okin {x : A} (hc : (stash1 S x).1) (ha : ∀ xs, x ≠ .agg xs) (ht : ∀ xs, x ≠ .tup xs) : okCell x = true := by
  cases x <;> simp [stash1, isData_un, isData_al] at hc <;> first | rfl | exact absurd rfl (ha _) | exact absurd rfl (ht _)
theorem stashL_cells : ∀ (n : Nat) (xs : List A) (S : State), xs.length = n → (stashL S xs).1 → (∀ x ∈ xs, (∀ ys, x ≠ .agg ys) ∧ ∀ ys, x ≠ .tup ys) → (stashL S xs).2.1.length = xs.length ∧ ∀ y ∈ (stashL S xs).2.1, okCell y = true := by
  intro n
  induction n with
  | zero =>
    intro xs S hn hc hx
    obtain rfl := List.eq_nil_of_length_eq_zero hn
    simp [stashL]
  | succ n ih =>
    intro xs S hn hc hx
    cases xs with
    | nil => simp at hn
    | cons x xs =>
      rw [stashL] at hc ⊢
      generalize hs1 : stash1 S x = p at hc ⊢
      obtain ⟨c, y, S1, ks⟩ := p
      simp only at hc ⊢
      generalize hs2 : stashL S1 (xs.map (kills ks)) = p2 at hc ⊢
      obtain ⟨c', ys, S2, ks'⟩ := p2
      simp only at hc ⊢
      have h1 : okCell y = true := by
        have := stash1_ok_cell (S := S) (stash1_okin (S := S) (x := x) (by rw [hs1]; exact hc.1) (hx x (by simp)).1 (hx x (by simp)).2) (by rw [hs1]; exact hc.1)
        rwa [hs1] at this
      have hk : ∀ x ∈ xs.map (kills ks), (∀ ys, x ≠ .agg ys) ∧ ∀ ys, x ≠ .tup ys := by
        intro z hz
        obtain ⟨u, hu, rfl⟩ := List.mem_map.1 hz
        have hu' := hx u (by simp [hu])
        clear hs2 hs1 hc ih hn hx h1 hz hu
        induction ks generalizing u with
        | nil => exact hu'
        | cons k ks ih =>
          refine ih (u := kill k u) ?_
          cases u <;> simp [kill_sl, kill_agg, kill_tup, kill_rp, kill_bx, kill_clo, kill_sc, kill_nil, kill_un, kill_vw, kill_pt, kill_mp, kill_rmp, kill_al] at hu' ⊢
          all_goals (split <;> simp)
      have h2 := ih (xs.map (kills ks)) S1 (by simpa using hn) (by rw [hs2]; exact hc.2) hk
      rw [hs2] at h2
      exact ⟨by simpa using h2.1, fun z hz => by rcases List.mem_cons.1 hz with rfl | hz; exact h1; exact h2.2 z hz⟩
theorem okCell_not {x : A} (h : okCell x = true) : (∀ ys, x ≠ .agg ys) ∧ ∀ ys, x ≠ .tup ys := by
  cases x <;> simp [okCell] at h <;> simp

theorem fill_slice (size : Nat) : ∀ (vals : List Value) (k : Nat) (cs : Array Value), (∀ v ∈ vals, v.cells.size = size) → (k + vals.length) * size ≤ cs.size →
    ∃ res, Instr.fill (fun i => some (i * size, size)) cs ((List.range' k vals.length).zip vals) = some res ∧ res.toList = cs.toList.take (k * size) ++ vals.flatMap (fun v => v.cells.toList) ++ cs.toList.drop ((k + vals.length) * size)
  | [], k, cs, _, _ => ⟨cs, rfl, by simp⟩
  | v :: vals, k, cs, hv, hs => by
    have hvs := hv v (by simp)
    simp only [List.length_cons, List.range'_succ, List.zip_cons_cons, Instr.fill]
    have hle : k * size + size ≤ cs.size := by
      have : (k + 1) * size ≤ (k + (v :: vals).length) * size := Nat.mul_le_mul_right _ (by simp)
      rw [Nat.add_mul] at this
      omega
    rw [if_neg (by simp [hvs]; omega)]
    have e2 : (v.cells.zipIdx.foldl (fun cs (c, j) => cs.setIfInBounds (k * size + j) c) cs) = ((v.cells.toList.zipIdx 0).foldl (fun cs (c, j) => cs.setIfInBounds (k * size + j) c) cs) := by
      rw [← Array.foldl_toList]; simp
    have e := fold_set v.cells.toList (k * size) 0 cs (by simp; omega)
    rw [← e2] at e
    generalize (v.cells.zipIdx.foldl (fun cs (c, j) => cs.setIfInBounds (k * size + j) c) cs) = cs2 at e ⊢
    have hsz : cs2.size = cs.size := by
      have := congrArg List.length e
      simp at this
      omega
    obtain ⟨res, h1, h2⟩ := fill_slice size vals (k + 1) cs2 (fun u hu => hv u (by simp [hu])) (by rw [hsz]; simpa [Nat.add_assoc, Nat.add_comm 1] using hs)
    refine ⟨res, h1, ?_⟩
    rw [h2, e]
    have hk1 : (k + 1) * size = k * size + v.cells.toList.length := by rw [Nat.add_mul]; simp [hvs]
    have hk2 : (k + 1 + vals.length) * size = k * size + v.cells.toList.length + vals.length * size := by rw [Nat.add_mul, hk1]
    have hk3 : (k + (vals.length + 1)) * size = k * size + v.cells.toList.length + vals.length * size := by rw [← hk2]; simp [Nat.add_assoc, Nat.add_comm 1]
    have hl : (cs.toList.take (k * size) ++ v.cells.toList).length = k * size + v.cells.toList.length := by simp; omega
    simp only [Nat.add_zero]
    rw [hk2, hk3, hk1]
    rw [List.take_append_of_le_length (by omega), List.take_of_length_le (by omega)]
    rw [List.drop_append, List.drop_eq_nil_of_le (by omega), hl, List.nil_append, List.drop_drop]
    simp only [List.flatMap_cons, List.append_assoc]
    congr 5
    omega

theorem opOK_buildSlice {o : Oper} {K : State → Prop} {t e : TypeId} {len : Nat} {parts : Array (Nat × Operand)} {s : Nat} {z : Value} (ho : o.op = .buildSlice t len parts) (hx : ∀ p ∈ parts.toList, okO p.2 = true)
    (hidx : parts.toList.map (·.1) = List.range' 0 parts.toList.length) (hlen : len = parts.toList.length) (ht : elemT P t = some e) (hs : szT P e = some s) (hz : zeroT P e = some z) (hsp : 0 < s) (hb : len * s ≤ 16777216)
    (hw : ∀ p ∈ parts.toList, (ev S p.2).width = s) (hok : (flat (parts.toList.map fun p => ev S p.2)).all okCell = true)
    (hc : (stashL S (flat (parts.toList.map fun p => ev S p.2))).1)
    (hK : K (((stashL S (flat (parts.toList.map fun p => ev S p.2))).2.2.1.addRow ⟨s, regroup (parts.toList.map fun p => ev S p.2) (stashL S (flat (parts.toList.map fun p => ev S p.2))).2.1, false⟩).put o.dst
      (.vw S.rows.length 0 len))) : opOK P o S K := by
  intro E a w next Q hss hn
  obtain ⟨hd, G, gs, hi⟩ := hss
  have hu := elemT_inv ht
  have hlm : len ≤ maxLen := by
    have : len * 1 ≤ len * s := Nat.mul_le_mul_left _ hsp
    simp only [maxLen]; omega
  -- the cells of all parts
  have hrel : ∀ ps : List (Nat × Operand), (∀ p ∈ ps, p ∈ parts.toList) → TRelL w G S.rows gs (flat (ps.map fun p => ev S p.2)) (ps.flatMap fun p => (a.eval p.2).cells.toList) [] := by
    intro ps
    induction ps with
    | nil => intro _; exact .nil
    | cons p ps ih =>
      intro hp
      simp only [List.map_cons, flat_cons, List.flatMap_cons]
      refine TRelL.append0 (cells_rel (ev_rel hi p.2 (hx p (hp p (by simp)))) ?_) (ih fun q hq => hp q (by simp [hq]))
      refine List.all_eq_true.2 fun c hc => List.all_eq_true.1 hok c ?_
      exact List.mem_flatMap.2 ⟨ev S p.2, List.mem_map.2 ⟨p, hp p (by simp), rfl⟩, hc⟩
  have hr0 := hrel parts.toList fun p hp => hp
  generalize hes : (parts.toList.map fun p => ev S p.2) = es at *
  have hnot : ∀ x ∈ flat es, (∀ ys, x ≠ .agg ys) ∧ ∀ ys, x ≠ .tup ys := fun x hx => okCell_not (List.all_eq_true.1 hok x hx)
  obtain ⟨hlenys, hokys⟩ := stashL_cells _ (flat es) S rfl hc hnot
  obtain ⟨F, hst, hrel2⟩ := stashL_ok _ (flat es) S _ [] rfl hi Res.nil hr0 hc
  generalize hsl : stashL S (flat es) = p at *
  obtain ⟨c, ys, S1, ks⟩ := p
  simp only at *
  have hcell : ∀ y ∈ ys, y.cells = [y] := fun y hy => okCell_cells (hokys y hy)
  have hfl := regroup_flat es ys hlenys hcell
  have hesw : ∀ x ∈ es, x.width = s := by
    intro x hx
    rw [← hes] at hx
    obtain ⟨p, hp, rfl⟩ := List.mem_map.1 hx
    exact hw p hp
  have hwd := regroup_width (n := s) es ys hlenys hcell hesw
  have hel : es.length = len := by rw [← hes, hlen]; simp
  -- what the machine lays
  have hvs : ∀ v ∈ parts.toList.map (fun p => a.eval p.2), v.cells.size = s := by
    intro v hv
    obtain ⟨p, hp, rfl⟩ := List.mem_map.1 hv
    have h1 := cells_rel (ev_rel hi p.2 (hx p hp)) (List.all_eq_true.2 fun c hc => List.all_eq_true.1 hok c (by
      rw [← hes]; exact List.mem_flatMap.2 ⟨ev S p.2, List.mem_map.2 ⟨p, hp, rfl⟩, hc⟩))
    have := h1.length
    have h2 := hw p hp
    unfold A.width at h2
    simp at this
    omega
  obtain ⟨zz, hzz⟩ : ∃ zz : Array Value, (len * s = 0 → zz = #[]) ∧ (len * s ≠ 0 → zz = z.cells) := by
    by_cases h0 : len * s = 0
    · exact ⟨#[], fun _ => rfl, fun h => absurd h0 h⟩
    · exact ⟨z.cells, fun h => absurd h h0, fun _ => rfl⟩
  generalize hcs : (Array.range (len * s)).map (zz[· % zz.size]!) = cs0
  have hcs0 : cs0.size = len * s := by rw [← hcs]; simp
  obtain ⟨res, hf1, hf2⟩ := fill_slice s (parts.toList.map fun p => a.eval p.2) 0 cs0 hvs (by simp; rw [hcs0, hlen]; simp)
  have hzip : (List.range' 0 (parts.toList.map fun p => a.eval p.2).length).zip (parts.toList.map fun p => a.eval p.2) = parts.toList.map fun p => (p.1, a.eval p.2) := by
    rw [List.length_map, ← hidx]
    exact List.zip_map' ..
  rw [hzip] at hf1
  have hres : res.toList = parts.toList.flatMap fun p => (a.eval p.2).cells.toList := by
    rw [hf2]
    simp only [Nat.zero_mul, List.take_zero, List.nil_append, Nat.zero_add, List.length_map]
    rw [List.drop_eq_nil_of_le (by simp [hcs0, hlen]), List.append_nil, List.flatMap_map]
  have hressz : res.size = len * s := by
    have h1 := hrel2.length
    rw [← hres, hlenys] at h1
    rw [flat_length hesw, hel] at h1
    simpa using h1
  have hrun : (execOp a.eval o).run P w = .ok (.value (.slice (some ⟨w.heap.size, 0, none⟩) len len)) (w.alloc (.cells res e)) := by
    have e1 : (parts.map fun (i, x) => (i, a.eval x)).toList = parts.toList.map fun p => (p.1, a.eval p.2) := by simp
    have hbb : ¬ (16777216 < len * s) := by omega
    rw [← e1] at hf1
    by_cases h0 : len * s = 0
    · have hz0 := hzz.1 h0
      subst hz0
      simp only [execOp, ho, Instr.buildSlice, Sem.run_bind, run_underlying hu, Result.andThen_ok, run_sizeOf hs, if_neg hbb, if_pos h0, Sem.run_pure, hcs, hf1]
      simp [newRow]
    · have hz0 := hzz.2 h0
      subst hz0
      simp only [execOp, ho, Instr.buildSlice, Sem.run_bind, run_underlying hu, Result.andThen_ok, run_sizeOf hs, if_neg hbb, if_neg h0, run_zero hz, Sem.run_pure, hcs, hf1]
      simp [newRow]
  unfold Oper.wp
  rw [hrun]
  have hF : ∀ b ∈ F ++ [], b < w.heap.size := hst.lt (by simp)
  rw [List.append_nil] at hF
  have hR : Res E G gs S1.rows F := by simpa using hst.res
  have hrow : ∀ (x : List A), x = regroup es ys → x.length = len := fun x hx => by rw [hx, regroup_length, hel]
  have htk : res.toList.take ((regroup es ys).length * s) = res.toList := by
    rw [regroup_length, hel, List.take_of_length_le (by simp [hressz])]
  have hi' := hst.inv.addRow (row := ⟨s, regroup es ys, false⟩) (e := e) (cap := len) hR hressz (by rw [hrow _ rfl]; exact .of (Nat.le_refl _)) hlm hwd
    (by
      show ∀ v ∈ res.toList.take ((regroup es ys).length * s), cellV v = true
      rw [htk]
      have := okCells_v (TRelL.of (rows := []) (gs := gs) hrel2) (List.all_eq_true.2 hokys)
      rw [← hres] at this
      exact this)
    (by
      show CellsRel false w G S1.rows gs (flat (regroup es ys)) (res.toList.take ((regroup es ys).length * s)) F
      rw [htk, hfl, hres]
      exact hrel2) hF
  have hvw := addRow_vw (w := w) (G := G) (S := S1) (gs := gs) (R := F) (row := ⟨s, regroup es ys, false⟩) (e := e) (cap := len) hressz (by rw [hrow _ rfl]; exact Nat.le_refl _) hlm len (by rw [hrow _ rfl]; exact Nat.le_refl _)
  rw [← hst.len] at hK
  exact hn _ _ _ hK ⟨by rw [put_defers]; exact hd, G, _, Inv.put (S := S1.addRow _) hi' hvw o.dst⟩
end
end Go.Fw

/- Stores. Plain theorems, no condition. -/
set_option linter.unusedVariables false
set_option linter.unusedSimpArgs false
namespace Go.Fw

def newElem (x : A) (q : Nat) (ys : List A) : A :=
  match x with
  | .agg xs => .agg (xs.take q ++ ys ++ xs.drop (q + ys.length))
  | _ => ys.headD .un
theorem newElem_cells {x : A} {q : Nat} {ys : List A} (hs : q + ys.length ≤ x.width) (hn : 0 < ys.length) (hok : ∀ y ∈ ys, okCell y = true) : (newElem x q ys).cells = x.cells.take q ++ ys ++ x.cells.drop (q + ys.length) := by
  cases x with
  | agg xs => rfl
  | _ =>
    simp only [A.width, A.cells, List.length_singleton] at hs
    obtain rfl : q = 0 := by omega
    have h1 : ys.length = 1 := by omega
    match ys, h1 with
    | [y], _ =>
      show y.cells = _
      rw [okCell_cells (hok y (by simp))]
      simp [A.cells]
theorem flat_set {n : Nat} {xs : List A} (hw : ∀ x ∈ xs, x.width = n) {j : Nat} {x y : A} (hx : xs[j]? = some x) {q : Nat} {ys : List A} (hs : q + ys.length ≤ n)
    (hy : y.cells = x.cells.take q ++ ys ++ x.cells.drop (q + ys.length)) :
    flat (xs.set j y) = (flat xs).take (j * n + q) ++ ys ++ (flat xs).drop (j * n + q + ys.length) := by
  have hj : j < xs.length := by
    rcases Nat.lt_or_ge j xs.length with h | h
    · exact h
    · rw [List.getElem?_eq_none h] at hx; simp at hx
  have hxe : xs[j] = x := by
    rw [List.getElem?_eq_getElem hj] at hx
    exact Option.some.inj hx
  have e1 : xs = xs.take j ++ x :: xs.drop (j + 1) := by
    conv => lhs; rw [← List.take_append_drop j xs, List.drop_eq_getElem_cons hj, hxe]
  have e2 : xs.set j y = xs.take j ++ y :: xs.drop (j + 1) := by rw [List.set_eq_take_append_cons_drop, if_pos hj]
  have hl : (flat (xs.take j)).length = j * n := by rw [flat_length (n := n) fun z hz => hw z (List.mem_of_mem_take hz)]; simp; rw [Nat.min_eq_left (by omega)]
  have hxw := hw x (List.mem_of_getElem? hx)
  unfold A.width at hxw
  have e3 : flat xs = flat (xs.take j) ++ (x.cells ++ flat (xs.drop (j + 1))) := by
    conv => lhs; rw [e1, flat_append, flat_cons]
  rw [e2, flat_append, flat_cons, e3, hy, ← hl, List.take_length_add_append, Nat.add_assoc, List.drop_length_add_append, List.take_append_of_le_length (by omega), List.drop_append_of_le_length (by omega)]
  simp only [List.append_assoc]

section
variable {P : Program} {E : Env P} {G : Nat → Prop} {gs : Gh} {S : State} {a : Act} {w : World} {tmps : Array Value}

theorem CellsRel.t {lk : Bool} {rows : List (Option Row)} {xs : List A} {vs : List Value} {F : List Nat} (h : CellsRel lk w G rows gs xs vs F) : TRelL w G rows gs xs vs F := by
  unfold CellsRel at h
  split at h
  · exact h
  · exact .of h
theorem CellsRel.seg {lk : Bool} {rows : List (Option Row)} {xs ys : List A} {vs us : List Value} {F Fy : List Nat} (h : CellsRel lk w G rows gs xs vs F) (hy : CellsRel lk w G rows gs ys us Fy) (k : Nat) (hk : k + ys.length ≤ xs.length) :
    ∃ F1 F2 F3, F = F1 ++ (F2 ++ F3) ∧ CellsRel lk w G rows gs (xs.take k ++ ys ++ xs.drop (k + ys.length)) (vs.take k ++ us ++ vs.drop (k + us.length)) (F1 ++ (Fy ++ F3)) := by
  have hyl : us.length = ys.length := hy.t.length
  unfold CellsRel at h hy ⊢
  split
  · rename_i hl
    rw [if_pos hl] at h hy
    obtain ⟨F1, F4, e1, h1, h2⟩ := h.take_ k
    obtain ⟨F2, F3, e2, h3, h4⟩ := h2.take_ ys.length
    rw [List.drop_drop, List.drop_drop] at h4
    refine ⟨F1, F2, F3, by rw [e1, e2], ?_⟩
    rw [List.append_assoc, List.append_assoc, hyl]
    exact h1.append (hy.append h4)
  · rename_i hl
    rw [if_neg hl] at h hy
    obtain ⟨F1, F4, e1, h1, h2⟩ := h.take_ k
    obtain ⟨F2, F3, e2, h3, h4⟩ := h2.take_ ys.length
    rw [List.drop_drop, List.drop_drop] at h4
    refine ⟨F1, F2, F3, by rw [e1, e2], ?_⟩
    rw [List.append_assoc, List.append_assoc, hyl]
    exact h1.append (hy.append h4)
theorem rowAt_setRow {q r : Nat} {row x : Row} (hq : rowAt S.rows q = some row) : rowAt (S.setRow q x).rows r = if r = q then some x else rowAt S.rows r := by
  show rowAt (S.rows.set q (some x)) r = _
  rw [rowAt_set _ _ _ _ (rowAt_lt hq)]

theorem Inv.store (hi : Inv E G gs S tmps w) {Fy : List Nat} (hR : Res E G gs S.rows Fy) (hRlt : ∀ b ∈ Fy, b < w.heap.size) {r j q : Nat} {row : Row} {x : A} {ys : List A} {vs : List Value} (hr : rowAt S.rows r = some row) (hx : row.xs[j]? = some x)
    (hs : q + ys.length ≤ row.n) (hn : 0 < ys.length) (hy : CellsRel row.lk w G S.rows gs ys vs Fy) (hok : ∀ y ∈ ys, okCell y = true) (hg : row.lk = true ∨ ∃ b0, (gs r).1 = some b0) :
    ∃ b cur e F', (gs r).1 = some b ∧ w.heap[b]? = some (.cells cur e (0, 0)) ∧ j * row.n + q + vs.length ≤ cur.size ∧
      Inv E G (gs.add r (some b) F') (S.setRow r { row with xs := row.xs.set j (newElem x q ys) }) tmps (w.setRow b (cur.toList.take (j * row.n + q) ++ vs ++ cur.toList.drop (j * row.n + q + vs.length)).toArray) := by
  have hj : j < row.xs.length := by
    rcases Nat.lt_or_ge j row.xs.length with h | h
    · exact h
    · rw [List.getElem?_eq_none h] at hx; simp at hx
  obtain ⟨b, hb, hrc⟩ := row_real hi hr (by omega) hg
  obtain ⟨cur, e, cap, h1, h2, h3, h4, h5, h6, h7⟩ := hrc.ex
  have hvl : vs.length = ys.length := hy.t.length
  have hxw := h5 x (List.mem_of_getElem? hx)
  have hfl := flat_length h5
  have hle : (j + 1) * row.n ≤ row.xs.length * row.n := Nat.mul_le_mul_right _ hj
  rw [Nat.add_mul] at hle
  have hle2 : row.xs.length * row.n ≤ cap * row.n := Nat.mul_le_mul_right _ h3.le
  have hcl := newElem_cells (x := x) (q := q) (ys := ys) (by omega) hn hok
  have hflat := flat_set h5 hx hs hcl
  obtain ⟨F1, F2, F3, hF, h8⟩ := h7.seg hy (j * row.n + q) (by rw [hfl]; omega)
  rw [← hflat] at h8
  -- the cells as they stand now
  have hcs : (cur.toList.take (row.xs.length * row.n)).take (j * row.n + q) ++ vs ++ (cur.toList.take (row.xs.length * row.n)).drop (j * row.n + q + vs.length) =
      (cur.toList.take (j * row.n + q) ++ vs ++ cur.toList.drop (j * row.n + q + vs.length)).take (row.xs.length * row.n) := by
    have hl1 : (cur.toList.take (j * row.n + q)).length = j * row.n + q := by simp; omega
    rw [List.take_take, Nat.min_eq_left (by omega), List.append_assoc, List.append_assoc, List.take_append, List.take_of_length_le (l := cur.toList.take (j * row.n + q)) (by omega), hl1, List.take_append, List.take_of_length_le (l := vs) (by omega),
      List.drop_take, Nat.sub_sub]
  rw [hcs] at h8
  generalize hcur' : (cur.toList.take (j * row.n + q) ++ vs ++ cur.toList.drop (j * row.n + q + vs.length)).toArray = cur'
  have hcl' : cur'.toList = cur.toList.take (j * row.n + q) ++ vs ++ cur.toList.drop (j * row.n + q + vs.length) := by rw [← hcur']
  have hsz : cur'.size = cur.size := by
    have := congrArg List.length hcl'
    simp at this
    omega
  rw [← hcl'] at h8
  have hbig : j * row.n + q + vs.length ≤ cur.size := by omega
  refine ⟨b, cur, e, F1 ++ (Fy ++ F3), hb, h1, hbig, ?_⟩
  rw [hcur']
  have hnew : (w.setRow b cur').heap[b]? = some (.cells cur' e (0, 0)) := setRow_heap w b cur cur' e _ h1
  have hold : ∀ k, k ≠ b → (w.setRow b cur').heap[k]? = w.heap[k]? := fun k hk => setRow_other w b k cur' hk
  have hball : b ∈ gs.all r := by simp [Gh.all, hb]
  have hG : ∀ c, G c → G c ∧ (w.setRow b cur').heap[c]? = w.heap[c]? := fun c hc => ⟨hc, hold c fun h => by subst h; exact (hi.own r row hr c hball).1 hc⟩
  have hgs : ∀ r', r' ≠ r → (gs.add r (some b) (F1 ++ (Fy ++ F3))) r' = gs r' := fun r' h => by simp [Gh.add, h]
  have hself : (gs.add r (some b) (F1 ++ (Fy ++ F3))) r = (some b, F1 ++ (Fy ++ F3)) := by simp [Gh.add]
  have hle' : ∀ r', RowLe w (w.setRow b cur') S.rows (S.setRow r { row with xs := row.xs.set j (newElem x q ys) }).rows gs (gs.add r (some b) (F1 ++ (Fy ++ F3))) r' := fun r' => ⟨fun row' hr' => by
    by_cases hrr : r' = r
    · subst hrr
      rw [hr] at hr'
      obtain rfl := Option.some.inj hr'
      refine ⟨{ row with xs := row.xs.set j (newElem x q ys) }, by rw [rowAt_setRow hr, if_pos rfl], by rw [hself, hb], rfl, by simp, fun b' c' e' hb' hh' => ?_⟩
      rw [hb] at hb'
      obtain rfl := Option.some.inj hb'
      rw [h1] at hh'
      simp only [Option.some.injEq, Obj.cells.injEq] at hh'
      obtain ⟨rfl, rfl, _⟩ := hh'
      exact ⟨cur', e, hnew, hsz⟩
    · refine ⟨row', by rw [rowAt_setRow hr, if_neg hrr]; exact hr', by rw [hgs r' hrr], rfl, rfl, fun b' c' e' hb' hh' => ⟨c', e', ?_, rfl⟩⟩
      rw [hold b' fun h => ?_]
      · exact hh'
      · subst h
        exact hi.dis r' r row' row hr' hr hrr b' (by simp [Gh.all, hb']) hball, fun row' hr' hn => by
    by_cases hrr : r' = r
    · subst hrr; rw [hb] at hn; cases hn
    · exact hgs r' hrr⟩
  have hcase : ∀ r' row', rowAt (S.setRow r { row with xs := row.xs.set j (newElem x q ys) }).rows r' = some row' → (r' = r ∧ row' = { row with xs := row.xs.set j (newElem x q ys) }) ∨ (r' ≠ r ∧ rowAt S.rows r' = some row') := fun r' row' h => by
    rw [rowAt_setRow hr] at h
    split at h
    · rename_i hh; exact .inl ⟨hh, (Option.some.inj h).symm⟩
    · rename_i hh; exact .inr ⟨hh, h⟩
  have hall0 : (gs.add r (some b) (F1 ++ (Fy ++ F3))).all r = b :: (F1 ++ (Fy ++ F3)) := by simp [Gh.all, hself]
  have hall : ∀ r', r' ≠ r → (gs.add r (some b) (F1 ++ (Fy ++ F3))).all r' = gs.all r' := fun r' h => by simp only [Gh.all, hgs r' h]
  have hallr : gs.all r = b :: (F1 ++ (F2 ++ F3)) := by simp [Gh.all, hb, hF]
  have hnodr := hi.nod r row hr
  rw [hallr] at hnodr
  have hsub : ∀ c ∈ b :: (F1 ++ (Fy ++ F3)), c ∈ gs.all r ∨ c ∈ Fy := fun c hc => by
    rw [hallr]
    simp only [List.mem_cons, List.mem_append] at hc ⊢
    rcases hc with h | h | h | h
    · exact .inl (.inl h)
    · exact .inl (.inr (.inl h))
    · exact .inr h
    · exact .inl (.inr (.inr (.inr h)))
  have hdisF : ∀ c ∈ gs.all r, c ∉ Fy := hR.dis r row hr
  have hbF : ∀ c ∈ F1 ++ (Fy ++ F3), c ≠ b := fun c hc h => by
    subst h
    simp only [List.nodup_cons, List.mem_append] at hnodr
    simp only [List.mem_append] at hc
    rcases hc with h | h | h
    · exact hnodr.1 (.inl h)
    · exact hdisF _ hball h
    · exact hnodr.1 (.inr (.inr h))
  refine ⟨fun c hc hf => ?_, hi.os, hi.tape, hi.output, by simp; exact hi.size, hi.sz, hi.gsub, hi.gnew, hi.glt.move (fun b h => h) (fun b h => (hG b h).2) (fun c hc => by simp; exact hi.glt c hc), fun r' row' hr' => ?_, fun r' row' hr' => ?_, fun r' row' hr' => ?_, fun r1 r2 row1 row2 hr1 hr2 hne => ?_, fun i => (hi.tmp i).step hG hle' (by simp)⟩
  · rw [hold c fun h => ?_]
    · exact hi.keep c hc hf
    · subst h
      rcases (hi.own r row hr c hball).2 with h | h
      · exact hf h
      · omega
  · rcases hcase r' row' hr' with ⟨rfl, rfl⟩ | ⟨hne, hr0⟩
    · rw [hself]
      refine ⟨cur', e, cap, hnew, by rw [hsz]; exact h2, by simpa using h3, h4, ?_, ?_, ?_⟩
      · intro z hz
        rcases List.mem_or_eq_of_mem_set hz with hz | rfl
        · exact h5 z hz
        · show (newElem x q ys).cells.length = row.n
          rw [hcl]
          unfold A.width at hxw
          simp
          omega
      · have hv1 := okCells_v hy.t (List.all_eq_true.2 hok)
        intro v hv
        simp only [List.length_set] at hv
        rw [hcl', ← hcs] at hv
        rcases List.mem_append.1 hv with hv | hv
        · rcases List.mem_append.1 hv with hv | hv
          · exact h6 v (List.mem_of_mem_take hv)
          · exact hv1 v hv
        · exact h6 v (List.mem_of_mem_drop hv)
      · simp only [List.length_set]
        unfold CellsRel at h8 ⊢
        have hF' : ∀ c ∈ F1 ++ (Fy ++ F3), (w.setRow b cur').heap[c]? = w.heap[c]? := fun c hc => hold c (hbF c hc)
        split
        · rename_i hl; rw [if_pos hl] at h8; exact h8.step hG hle' hF'
        · rename_i hl; rw [if_neg hl] at h8; exact h8.move_ hG hF'
    · rw [hgs r' hne]
      exact (hi.row r' row' hr0).step hG hle' fun c hc => hold c fun h => by subst h; exact hi.dis r' r row' row hr0 hr hne c hc hball
  · rcases hcase r' row' hr' with ⟨rfl, rfl⟩ | ⟨hne, hr0⟩
    · rw [hall0]
      refine List.nodup_cons.2 ⟨fun h => hbF _ h rfl, ?_⟩
      have hnd := (List.nodup_cons.1 hnodr).2
      rw [List.nodup_append] at hnd ⊢
      obtain ⟨n1, n2, n3⟩ := hnd
      rw [List.nodup_append] at n2
      refine ⟨n1, List.nodup_append.2 ⟨hR.nod, n2.2.1, fun c hc d hd h => ?_⟩, fun c hc d hd h => ?_⟩
      · subst h; exact hdisF c (by rw [hallr]; simp [hd]) hc
      · subst h
        rcases List.mem_append.1 hd with hd | hd
        · exact hdisF c (by rw [hallr]; simp [hc]) hd
        · exact n3 c hc c (by simp [hd]) rfl
    · rw [hall r' hne]; exact hi.nod r' row' hr0
  · rcases hcase r' row' hr' with ⟨rfl, rfl⟩ | ⟨hne, hr0⟩
    · rw [hall0]
      intro c hc
      rcases hsub c hc with h | h
      · exact hi.own r' row hr c h
      · exact hR.own c h
    · rw [hall r' hne]; exact hi.own r' row' hr0
  · rcases hcase r1 row1 hr1 with ⟨rfl, rfl⟩ | ⟨n1, g1⟩ <;> rcases hcase r2 row2 hr2 with ⟨rfl, rfl⟩ | ⟨n2, g2⟩
    · exact absurd rfl hne
    · rw [hall0, hall r2 n2]
      intro c hc hc2
      rcases hsub c hc with h | h
      · exact hi.dis r1 r2 row row2 hr g2 hne c h hc2
      · exact hR.dis r2 row2 g2 c hc2 h
    · rw [hall0, hall r1 n1]
      intro c hc hc2
      rcases hsub c hc2 with h | h
      · exact hi.dis r1 r2 row1 row g1 hr hne c hc h
      · exact hR.dis r1 row1 g1 c hc h
    · rw [hall r1 n1, hall r2 n2]
      exact hi.dis r1 r2 row1 row2 g1 g2 hne

theorem opOK_store {o : Oper} {K : State → Prop} {t : TypeId} {x y : Operand} {r j q s : Nat} {row : Row} {z : A} (ho : o.op = .store t x y) (hx : okO x = true) (hy : okO y = true) (he : ev S x = .pt r j q) (hr : rowAt S.rows r = some row)
    (hlk : row.lk = true) (hz : row.xs[j]? = some z) (hs : szT P t = some s) (hsl : (ev S y).cells.length = s) (hsp : 0 < s) (hq : q + s ≤ row.n) (hok : (ev S y).cells.all okCell = true)
    (hK : K ((S.setRow r { row with xs := row.xs.set j (newElem z q (ev S y).cells) }).put o.dst .un)) : opOK P o S K := by
  intro E a w next Q hss hn
  obtain ⟨hd, G, gs, hi⟩ := hss
  have h1 := ev_rel hi x hx
  rw [he] at h1
  obtain ⟨row', b, hr', hb, hv⟩ := pt_inv h1
  rw [hr] at hr'
  obtain rfl := Option.some.inj hr'
  have h2 := cells_rel (ev_rel hi y hy) hok
  obtain ⟨b', cur, e, F', hb', hh, hle, hinv⟩ := hi.store (Fy := []) Res.nil (by simp) (j := j) (q := q) (ys := (ev S y).cells) (vs := (a.eval y).cells.toList) hr hz (by omega) (by omega) (by unfold CellsRel; rw [if_pos hlk]; exact h2) (List.all_eq_true.1 hok) (.inl hlk)
  rw [hb] at hb'
  obtain rfl := Option.some.inj hb'
  have hcv := okCells_v h2 hok
  have hst := run_storeCells_at P b (j * row.n + q) e (a.eval y).cells.toList 0 cur w hh (by simpa using hle) hcv
  have hsz : (a.eval y).cells.size = s := by have := h2.length; simp at this; omega
  have hrun : (execOp a.eval o).run P w = .ok .skip (w.setRow b (cur.toList.take (j * row.n + q) ++ (a.eval y).cells.toList ++ cur.toList.drop (j * row.n + q + (a.eval y).cells.toList.length)).toArray) := by
    simp only [Nat.add_zero] at hst
    simp [execOp, ho, hv, Instr.storeAt, Instr.sureAddr, storeVar, run_sizeOf hs, hsz]
    rw [hst]
    simp [hsz]
  unfold Oper.wp
  rw [hrun]
  exact hn _ _ _ hK ⟨by rw [put_defers]; exact hd, G, _, Inv.put (S := S.setRow r _) hinv .un o.dst⟩

/-- Into a row of data: what goes in is plain, or an own row as a whole. -/
theorem opOK_storeD {o : Oper} {K : State → Prop} {t : TypeId} {x y : Operand} {r j q s : Nat} {row : Row} {z : A} (ho : o.op = .store t x y) (hx : okO x = true) (hy : okO y = true) (he : ev S x = .pt r j q) (hr : rowAt S.rows r = some row)
    (hlk : row.lk = false) (hz : row.xs[j]? = some z) (hs : szT P t = some s) (hsl : (ev S y).cells.length = s) (hsp : 0 < s) (hq : q + s ≤ row.n) (hok : (ev S y).cells.all okCell = true)
    (hc : (stashL S (ev S y).cells).1) (hne : r ∉ (stashL S (ev S y).cells).2.2.2)
    (hK : K (((stashL S (ev S y).cells).2.2.1.setRow r { row with xs := row.xs.set j (newElem z q (stashL S (ev S y).cells).2.1) }).put o.dst .un)) : opOK P o S K := by
  intro E a w next Q hss hn
  obtain ⟨hd, G, gs, hi⟩ := hss
  have h1 := ev_rel hi x hx
  rw [he] at h1
  obtain ⟨row', b, hr', hb, hv⟩ := pt_inv h1
  rw [hr] at hr'
  obtain rfl := Option.some.inj hr'
  have h2 := cells_rel (ev_rel hi y hy) hok
  obtain ⟨hlen, hokys⟩ := stashL_cells _ _ S rfl hc fun c hc => okCell_not (List.all_eq_true.1 hok c hc)
  obtain ⟨F, hst0, hrel⟩ := stashL_ok _ _ S _ [] rfl hi Res.nil h2 hc
  generalize stashL S (ev S y).cells = p at *
  obtain ⟨c, ys, S1, ks⟩ := p
  simp only at *
  have hr1 := hst0.rows r row hne hr hlk
  have hlt : ∀ b ∈ F, b < w.heap.size := by simpa using hst0.lt (by simp)
  obtain ⟨b', cur, e, F', hb', hh, hle, hinv⟩ := hst0.inv.store (Fy := F) (by simpa using hst0.res) hlt (j := j) (q := q) (ys := ys) (vs := (a.eval y).cells.toList) hr1 hz (by omega) (by omega) (by unfold CellsRel; rw [if_neg (by simp [hlk])]; exact hrel) hokys (.inr ⟨_, hb⟩)
  rw [hb] at hb'
  obtain rfl := Option.some.inj hb'
  have hcv := okCells_v h2 hok
  have hst := run_storeCells_at P b (j * row.n + q) e (a.eval y).cells.toList 0 cur w hh (by simpa using hle) hcv
  have hsz : (a.eval y).cells.size = s := by have := h2.length; simp at this; omega
  have hrun : (execOp a.eval o).run P w = .ok .skip (w.setRow b (cur.toList.take (j * row.n + q) ++ (a.eval y).cells.toList ++ cur.toList.drop (j * row.n + q + (a.eval y).cells.toList.length)).toArray) := by
    simp only [Nat.add_zero] at hst
    simp [execOp, ho, hv, Instr.storeAt, Instr.sureAddr, storeVar, run_sizeOf hs, hsz]
    rw [hst]
    simp [hsz]
  unfold Oper.wp
  rw [hrun]
  exact hn _ _ _ hK ⟨by rw [put_defers]; exact hd, G, _, Inv.put (S := S1.setRow r _) hinv .un o.dst⟩
end
end Go.Fw

/- append. Plain theorems, no condition. -/
set_option linter.unusedVariables false
set_option linter.unusedSimpArgs false
namespace Go.Fw

section
variable {P : Program} {E : Env P} {G : Nat → Prop} {gs : Gh} {S : State} {a : Act} {w : World} {tmps : Array Value}

/-- What is appended: m elements of s cells, these cells. -/
structure Source (P : Program) (w : World) (s m : Nat) (v : Value) (news : List Value) : Prop where
  len : news.length = m * s
  lenOf : ∀ w', (Builtin.lenOf v).run P w' = .ok m w'
  first : ∀ w', w'.heap = w.heap → (Builtin.firstCells s m v).run P w' = .ok news.toArray w'
  cell : ∀ u ∈ news, cellV u = true

theorem bytesT_info {e : TypeId} {it : TypeInfo} (hit : P.info? e = some it) : bytesT P e = it.bytes := by simp [bytesT, hit]

/-- append to a row of the call's own. -/
theorem run_append_fw {t ty e : TypeId} {s m : Nat} {z : Value} (ht : elemT P t = some e) (hs : szT P e = some s) (hz : zeroT P e = some z) (hzs : z.cells.size = s) (hsp : 0 < s)
    {g len cap : Nat} {cur : Array Value} {e1 : TypeId} (hg : w.heap[g]? = some (.cells cur e1 (0, 0))) (hcs : cur.size = cap * s) (hlc : len ≤ cap) (hcm : cap ≤ maxLen)
    {xv : Value} {news : List Value} (hx : Source P w s m xv news) (hb : (len + m) * bytesT P e ≤ 140737488355328) (hm : len + m ≤ maxLen) :
    ∃ w' b' cur' e' cap', (Builtin.append_ #[t, t] ty #[.slice (some ⟨g, 0, none⟩) len cap, xv]).run P w = .ok (.slice (some ⟨b', 0, none⟩) (len + m) cap') w' ∧
      w'.heap[b']? = some (.cells cur' e' (0, 0)) ∧ cur'.size = cap' * s ∧ len + m ≤ cap' ∧ cap' ≤ maxLen ∧ cur'.toList.take ((len + m) * s) = cur.toList.take (len * s) ++ news ∧
      (b' = g ∨ b' = w.heap.size) ∧ w'.os = w.os ∧ w'.tape = w.tape ∧ w'.output = w.output ∧ w.heap.size ≤ w'.heap.size ∧ (∀ k, k < w.heap.size → k ≠ g → w'.heap[k]? = w.heap[k]?) := by
  have hu := elemT_inv ht
  have hs' := hs
  have hz' := hz
  unfold szT at hs'
  unfold zeroT at hz'
  cases hit : P.info? e with
  | none => simp [hit] at hs'
  | some it =>
    simp only [hit, Option.map_some, Option.some.injEq] at hs'
    simp only [hit, Option.bind_some] at hz'
    rw [bytesT_info hit] at hb
    have hlen1 : (cur.toList.take (len * s)).length = len * s := by
      have : len * s ≤ cap * s := Nat.mul_le_mul_right _ hlc
      simp; omega
    by_cases hroom : len + m ≤ cap
    · have hfit : len * s + news.length ≤ cur.size := by rw [hx.len, hcs, ← Nat.add_mul]; exact Nat.mul_le_mul_right _ hroom
      have hst := run_storeCells_at P g (len * s) e1 news 0 cur w hg (by simpa using hfit) hx.cell
      simp only [Nat.add_zero] at hst
      refine ⟨_, g, (cur.toList.take (len * s) ++ news ++ cur.toList.drop (len * s + news.length)).toArray, e1, cap, ?_, setRow_heap w g cur _ e1 _ hg, ?_, hroom, hcm, ?_, .inl rfl, rfl, rfl, rfl, by simp, fun k _ hk => setRow_other w g k _ hk⟩
      · simp [Builtin.append_, run_underlying hu, run_sizeOf hs, hx.lenOf, hroom, hx.first w rfl, Addr.add_lit, hst]
      · have h2 := hx.len
        simp only [List.size_toArray, List.length_append, List.length_drop, Array.length_toList, hlen1]
        omega
      · simp only [Nat.add_mul]
        rw [← hx.len, List.take_left' (by simp [hlen1])]
    · have hn : ¬ (len + m ≤ cap) := hroom
      have hmi : ((len + m : Nat) : Int) ≤ 9223372036854775807 := by simp [maxLen] at hm; omega
      have h63' : ¬ (9223372036854775807 < ((len : Int) + (m : Int))) := by omega
      have hfits := growslice_fits (need := len + m) (old := cap) (bytes := it.bytes) (by omega) hb
      have h48' : ¬ (281474976710656 < Builtin.nextslicecap (len + m) cap * it.bytes) := by omega
      have hfo : ∀ w', w'.heap = w.heap → (Builtin.firstCells s len (.slice (some ⟨g, 0, none⟩) len cap)).run P w' = .ok (cur.toList.take (len * s)).toArray w' := fun w' hw' =>
        run_firstCells_some (P := P) w' s len ⟨g, 0, none⟩ len cap _ hlen1 (fun j v hv => by
          rw [add_none, cell_at (w := w') (by rw [hw']; exact hg)]
          have hj : j < len * s := by
            rcases Nat.lt_or_ge j (len * s) with h | h
            · exact h
            · rw [List.getElem?_take_eq_none h] at hv; simp at hv
          rw [List.getElem?_take_of_lt hj] at hv
          simpa using hv)
      have hge := grownCap_ge w (len + m) cap e
      have hle := grownCap_le_maxLen w (len + m) cap e hm
      refine ⟨w.drew.alloc (.cells ((cur.toList.take (len * s)).toArray ++ news.toArray ++ Builtin.zeroCells z.cells (grownCap w (len + m) cap e - (len + m))) e), w.heap.size, _, e, grownCap w (len + m) cap e, ?_, heap_alloc_new w.drew _, ?_, hge, hle, ?_, .inr rfl, rfl, rfl, rfl, by simp, fun k hk _ => heap_alloc_old w.drew _ k hk⟩
      · simp [Builtin.append_, run_underlying hu, run_sizeOf hs, sizeOf, typeInfo, zeroValue, hit, hs', hz', hx.lenOf, hn, h63', h48', Question.forced, hx.first w.drew rfl, hfo w.drew rfl, newRow, grownCap]
        congr 2
        apply Array.ext'
        simp
      · simp only [Array.size_append, List.size_toArray, size_zeroCells, hzs, hlen1, hx.len, ← Nat.add_mul]
        congr 1
        omega
      · simp only [Array.toList_append, List.append_assoc]
        rw [← List.append_assoc, Nat.add_mul, List.take_left' (by simp [hlen1, hx.len])]

/-- append to nil. -/
theorem run_append_nil_fw {t ty e : TypeId} {s m : Nat} {z : Value} (ht : elemT P t = some e) (hs : szT P e = some s) (hz : zeroT P e = some z) (hzs : z.cells.size = s) (hsp : 0 < s)
    {xv : Value} {news : List Value} (hx : Source P w s m xv news) (hb : m * bytesT P e ≤ 140737488355328) (hm : m ≤ maxLen) (hm0 : m ≠ 0) :
    ∃ cur' cap', (Builtin.append_ #[t, t] ty #[.slice none 0 0, xv]).run P w = .ok (.slice (some ⟨w.heap.size, 0, none⟩) m cap') (w.drew.alloc (.cells cur' e)) ∧
      cur'.size = cap' * s ∧ m ≤ cap' ∧ cap' ≤ maxLen ∧ cur'.toList.take (m * s) = news := by
  have hu := elemT_inv ht
  have hs' := hs
  have hz' := hz
  unfold szT at hs'
  unfold zeroT at hz'
  cases hit : P.info? e with
  | none => simp [hit] at hs'
  | some it =>
    simp only [hit, Option.map_some, Option.some.injEq] at hs'
    simp only [hit, Option.bind_some] at hz'
    rw [bytesT_info hit] at hb
    have hmi : ((m : Nat) : Int) ≤ 9223372036854775807 := by simp [maxLen] at hm; omega
    have h63' : ¬ (9223372036854775807 < (m : Int)) := by omega
    have hfits := growslice_fits (need := m) (old := 0) (bytes := it.bytes) (by omega) hb
    have h48' : ¬ (281474976710656 < Builtin.nextslicecap m 0 * it.bytes) := by omega
    have hge := grownCap_ge w m 0 e
    have hle := grownCap_le_maxLen w m 0 e hm
    refine ⟨news.toArray ++ Builtin.zeroCells z.cells (grownCap w m 0 e - m), grownCap w m 0 e, ?_, ?_, hge, hle, ?_⟩
    · have hn : ¬ (m = 0) := hm0
      simp [Builtin.append_, run_underlying hu, run_sizeOf hs, sizeOf, typeInfo, zeroValue, hit, hs', hz', hx.lenOf, hn, h63', h48', Question.forced, hx.first w.drew rfl, newRow, grownCap, run_firstCells_none]
    · simp only [Array.size_append, List.size_toArray, size_zeroCells, hzs, hx.len, ← Nat.add_mul]
      congr 1
      omega
    · simp only [Array.toList_append]
      rw [← hx.len, List.take_left' (by simp)]
theorem run_append_nil0 {t ty e : TypeId} {s : Nat} (ht : elemT P t = some e) (hs : szT P e = some s) {xv : Value} {news : List Value} (hx : Source P w s 0 xv news) :
    (Builtin.append_ #[t, t] ty #[.slice none 0 0, xv]).run P w = .ok (.slice none 0 0) w := by
  have hu := elemT_inv ht
  have hn : news = [] := List.eq_nil_of_length_eq_zero (by have := hx.len; omega)
  subst hn
  simp [Builtin.append_, run_underlying hu, run_sizeOf hs, hx.lenOf, hx.first w rfl]

/-- The elements that stand behind a slice's temporary. -/
def elemsA (S : State) : A → Option (List A)
  | .nil => some []
  | .sl false _ xs => some xs
  | .vw r off len => (rowAt S.rows r).map fun row => (row.xs.drop off).take len
  | _ => none
/-- They are of n cells. -/
def nA (S : State) : A → Option Nat
  | .sl false n _ => some n
  | .vw r _ _ => (rowAt S.rows r).map (·.n)
  | _ => none
theorem source_ok (hi : Inv E G gs S tmps w) {x : A} {v : Value} (hx : TRel w G S.rows gs x v []) {xs : List A} {s : Nat} (he : elemsA S x = some xs) (hn : x = .nil ∨ nA S x = some s)
    (hno : ∀ y ∈ xs, noOwn y = true) (hlk : ∀ r off len row, x = .vw r off len → rowAt S.rows r = some row → row.lk = false) (hok : ∀ c ∈ flat xs, okCell c = true) :
    ∃ news, Source P w s xs.length v news ∧ RelL w G (flat xs) news [] ∧ ∀ y ∈ xs, y.width = s := by
  have hall : (flat xs).all noOwn = true := List.all_eq_true.2 fun c hc => by
    obtain ⟨y, hy, hc⟩ := List.mem_flatMap.1 hc
    have := hno y hy
    cases y <;> simp [A.cells] at hc <;> try (subst hc; exact this)
    rw [noOwn_agg] at this
    exact List.all_eq_true.1 this c hc
  have mk : ∀ (b k cap : Nat) (cur : Array Value) (e : TypeId) (fr : Nat × Nat), v = .slice (some ⟨b, k, none⟩) xs.length cap → w.heap[b]? = some (.cells cur e fr) → (∀ y ∈ xs, y.width = s) →
      RelL w G (flat xs) ((cur.toList.drop k).take (xs.length * s)) [] → ∃ news, Source P w s xs.length v news ∧ RelL w G (flat xs) news [] ∧ ∀ y ∈ xs, y.width = s := by
    intro b k cap cur e fr hv hh hw hl
    have hlen : ((cur.toList.drop k).take (xs.length * s)).length = xs.length * s := by rw [hl.length, flat_length hw]
    refine ⟨_, ⟨hlen, fun w' => ?_, fun w' hw' => ?_, okCells_v (TRelL.of (rows := []) (gs := gs) hl) (List.all_eq_true.2 hok)⟩, hl, hw⟩
    · rw [hv]; simp [Builtin.lenOf]
    · rw [hv]
      exact run_firstCells_some (P := P) w' s _ ⟨b, k, none⟩ _ cap _ hlen (fun j u hu => by
        rw [add_none, cell_at (w := w') (by rw [hw']; exact hh)]
        have hj : j < xs.length * s := by
          rcases Nat.lt_or_ge j (xs.length * s) with h | h
          · exact h
          · rw [List.getElem?_take_eq_none h] at hu; simp at hu
        rw [List.getElem?_take_of_lt hj, List.getElem?_drop] at hu
        simpa using hu)
  have mkn : (∃ oa, v = .slice oa 0 0) → xs = [] → ∃ news, Source P w s xs.length v news ∧ RelL w G (flat xs) news [] ∧ ∀ y ∈ xs, y.width = s := by
    rintro ⟨oa, hv⟩ hxs
    subst hxs
    refine ⟨[], ⟨by simp, fun w' => by rw [hv]; simp [Builtin.lenOf], fun w' _ => by rw [hv]; cases oa <;> simp [Builtin.firstCells, loadCells, loadCellsFrom], by simp⟩, .nil, by simp⟩
  cases x <;> simp [elemsA] at he
  case nil =>
    subst he
    refine mkn ⟨none, ?_⟩ rfl
    cases hx with | of h => cases h; rfl
  case sl o n ys =>
    cases o <;> simp [elemsA] at he
    subst he
    simp only [reduceCtorEq, nA, Option.some.injEq, false_or] at hn
    subst hn
    rcases slf_inv hx with ⟨hv, hxs⟩ | ⟨b, k, cap, cur, e, fr, hv, hh, hg, hw, hl, hcap, hm⟩
    · exact mkn hv hxs
    · exact mk b k cap cur e fr hv hh hw hl
  case vw r off len =>
    obtain ⟨row, hr, rfl⟩ := he
    simp only [reduceCtorEq, nA, hr, Option.map_some, Option.some.injEq, false_or] at hn
    subst hn
    rcases vw_inv hx with ⟨row', k, cap, cur, e, b, hr', hob, g1, g2, g3, g4, g5, g6, hv⟩ | ⟨row', hr', hob, hxs, rfl, rfl, hv⟩
    · rw [hr] at hr'
      obtain rfl := Option.some.inj hr'
      have hrr := hi.row r row hr
      rw [hob] at hrr
      obtain ⟨cur', e', cap', h1, h2, h3, h4, h5, h6, h7⟩ := hrr.ex
      rw [g2] at h1
      simp only [Option.some.injEq, Obj.cells.injEq] at h1
      obtain ⟨rfl, rfl, _⟩ := h1
      have hw : ∀ y ∈ (row.xs.drop off).take len, y.width = row.n := fun y hy => h5 y (List.mem_of_mem_drop (List.mem_of_mem_take hy))
      have hlen : ((row.xs.drop off).take len).length = len := by simp; omega
      have hlk' := hlk r off len row rfl hr
      unfold CellsRel at h7
      rw [if_neg (by simp [hlk'])] at h7
      obtain ⟨F1, F2, e1, _, k2⟩ := h7.take_ (off * row.n)
      obtain ⟨F3, F4, e2, k3, _⟩ := k2.take_ (len * row.n)
      rw [flat_drop off h5, flat_take len (fun y hy => h5 y (List.mem_of_mem_drop hy))] at k3
      have hF := k3.noOwn hall
      subst hF
      have hle : (off + len) * row.n ≤ row.xs.length * row.n := Nat.mul_le_mul_right _ g1
      rw [Nat.add_mul] at hle
      rw [List.drop_take, List.take_take, Nat.min_eq_left (by omega)] at k3
      have hk : k = off * row.n ∨ len = 0 := by rcases g6 with h | h <;> omega
      rcases hk with rfl | h0
      · exact mk b _ (cap - off) cur e (0, 0) (by rw [hlen]; exact hv) g2 hw (by rw [hlen]; exact k3)
      · exact mk b k (cap - off) cur e (0, 0) (by rw [hlen]; exact hv) g2 hw (by
          rw [hlen]
          subst h0
          simpa using k3)
    · rw [hr] at hr'
      obtain rfl := Option.some.inj hr'
      exact mkn ⟨none, hv⟩ (by simp)
end
end Go.Fw

/- append on abstract states. Plain theorems, no condition. -/
set_option linter.unusedVariables false
set_option linter.unusedSimpArgs false
namespace Go.Fw

section
variable {P : Program} {E : Env P} {G : Nat → Prop} {gs : Gh} {S : State} {a : Act} {w : World} {tmps : Array Value}

theorem append_core (hi : Inv E G gs S tmps w) {R F2 : List Nat} (hR : Res E G gs S.rows R) (hRlt : ∀ b ∈ R, b < w.heap.size) (hsub : ∀ b ∈ F2, b ∈ R) (hnd : F2.Nodup)
    {r len : Nat} {row : Row} (hr : rowAt S.rows r = some row) (hlk : row.lk = false) {sv : Value} (hsv : TRel w G S.rows gs (.vw r 0 len) sv [])
    {xv : Value} {news : List Value} {xs2 : List A} (hx : Source P w row.n xs2.length xv news) (hrel : RelL w G (flat xs2) news F2) (hw2 : ∀ y ∈ xs2, y.width = row.n)
    {t ty e : TypeId} {z : Value} (ht : elemT P t = some e) (hs : szT P e = some row.n) (hz : zeroT P e = some z) (hzs : z.cells.size = row.n) (hsp : 0 < row.n)
    (hb : (len + xs2.length) * bytesT P e ≤ 140737488355328) (hm : len + xs2.length ≤ maxLen) :
    ∃ w' v' ob F', (Builtin.append_ #[t, t] ty #[sv, xv]).run P w = .ok v' w' ∧ Inv E G (gs.add r ob F') (S.turn r (some ⟨row.n, row.xs.take len ++ xs2, false⟩)) tmps w' ∧
      TRel w' G (S.turn r (some ⟨row.n, row.xs.take len ++ xs2, false⟩)).rows (gs.add r ob F') (.vw r 0 (len + xs2.length)) v' [] := by
  have hlt : r < S.rows.length := rowAt_lt hr
  have hself : ∀ ob F', (gs.add r ob F') r = (ob, F') := fun ob F' => by simp [Gh.add]
  have hrow' : rowAt (S.turn r (some ⟨row.n, row.xs.take len ++ xs2, false⟩)).rows r = some ⟨row.n, row.xs.take len ++ xs2, false⟩ := by rw [rowAt_turn hr, if_pos rfl]
  have hfl2 : news.length = xs2.length * row.n := hx.len
  rcases vw_inv hsv with ⟨row', k, cap, cur, e1, b, hr', hob, g1, g2, g3, g4, g5, g6, rfl⟩ | ⟨row', hr', hob, hxs, _, rfl, rfl⟩
  · rw [hr] at hr'
    obtain rfl := Option.some.inj hr'
    have hk : k = 0 := by rcases g6 with h | h <;> omega
    subst hk
    have hrr := hi.row r row hr
    rw [hob] at hrr
    obtain ⟨cur0, e0, cap0, h1, h2, h3, h4, h5, h6, h7⟩ := hrr.ex
    rw [g2] at h1
    simp only [Option.some.injEq, Obj.cells.injEq] at h1
    obtain ⟨rfl, rfl, _⟩ := h1
    unfold CellsRel at h7
    rw [if_neg (by simp [hlk])] at h7
    obtain ⟨F1, F3, hF, hp, _⟩ := h7.take_ (len * row.n)
    have hll : len ≤ row.xs.length := by omega
    rw [flat_take len h5, List.take_take, Nat.min_eq_left (Nat.mul_le_mul_right _ hll)] at hp
    obtain ⟨w', b', cur', e', cap', hrun, q1, q2, q3, q4, q5, q6, q7, q8, q9, q10, q11⟩ := run_append_fw (ty := ty) ht hs hz hzs hsp g2 g3 (by omega : len ≤ cap) g4 hx hb hm
    have hall : gs.all r = b :: (gs r).2 := by simp [Gh.all, hob]
    have hball : b ∈ gs.all r := by rw [hall]; simp
    have hnodr := hi.nod r row hr
    rw [hall, hF] at hnodr
    have hF1 : ∀ c ∈ F1, c ∈ gs.all r ∧ c ≠ b := fun c hc => ⟨by rw [hall, hF]; simp [hc], fun h => by subst h; simp [hc] at hnodr⟩
    have hGne : ∀ c, G c → G c ∧ w'.heap[c]? = w.heap[c]? := fun c hc => ⟨hc, q11 c (hi.glt c hc) fun h => by subst h; exact (hi.own r row hr c hball).1 hc⟩
    have hFeq : ∀ c ∈ F1 ++ F2, w'.heap[c]? = w.heap[c]? := fun c hc => by
      rcases List.mem_append.1 hc with hc | hc
      · exact q11 c (hi.block_lt hr c (hF1 c hc).1) (hF1 c hc).2
      · exact q11 c (hRlt c (hsub c hc)) fun h => by subst h; exact hR.dis r row hr c hball (hsub c hc)
    have hnodF : (F1 ++ F2).Nodup := by
      rw [List.nodup_append]
      refine ⟨?_, hnd, fun c hc d hd h => ?_⟩
      · have := (List.nodup_cons.1 hnodr).2
        rw [List.nodup_append] at this
        exact this.1
      · subst h; exact hR.dis r row hr c (hF1 c hc).1 (hsub c hd)
    have hb'F : ∀ c ∈ F1 ++ F2, c ≠ b' := fun c hc h => by
      subst h
      rcases q6 with h | h
      · rcases List.mem_append.1 hc with hc | hc
        · exact (hF1 c hc).2 h
        · exact hR.dis r row hr b hball (h ▸ hsub c hc)
      · rcases List.mem_append.1 hc with hc | hc
        · have := hi.block_lt hr c (hF1 c hc).1; omega
        · have := hRlt c (hsub c hc); omega
    have hcont : RowRel w' G [] gs ⟨row.n, row.xs.take len ++ xs2, false⟩ (some b') (F1 ++ F2) → True := fun _ => trivial
    have hlen' : (row.xs.take len ++ xs2).length = len + xs2.length := by simp; omega
    refine ⟨w', _, some b', F1 ++ F2, hrun, hi.turn hr q7 q8 q9 q10 (fun c hc hn => q11 c hc fun h => hn (h ▸ hball)) ?_ ?_ ?_ ?_, ?_⟩
    · exact List.nodup_cons.2 ⟨fun h => hb'F b' h rfl, hnodF⟩
    · intro c hc
      have hc : c ∈ b' :: (F1 ++ F2) := hc
      rcases List.mem_cons.1 hc with rfl | hc
      · rcases q6 with h | h
        · subst h; exact hi.own r row hr _ hball
        · subst h; exact ⟨fun hg => by have := hi.glt _ hg; omega, .inr hi.size⟩
      · rcases List.mem_append.1 hc with hc | hc
        · exact hi.own r row hr c (hF1 c hc).1
        · exact hR.own c (hsub c hc)
    · intro r' row' hne hr' c hc hc2
      have hc2 : c ∈ b' :: (F1 ++ F2) := hc2
      rcases List.mem_cons.1 hc2 with rfl | hc2
      · rcases q6 with h | h
        · subst h; exact hi.dis r' r row' row hr' hr hne _ hc hball
        · subst h; have := hi.block_lt hr' _ hc; omega
      · rcases List.mem_append.1 hc2 with hc2 | hc2
        · exact hi.dis r' r row' row hr' hr hne c hc (hF1 c hc2).1
        · exact hR.dis r' row' hr' c hc (hsub c hc2)
    · intro row' hrow
      obtain rfl := Option.some.inj hrow
      refine ⟨rfl, fun rows' gs' => ⟨cur', e', cap', q1, q2, by rw [hlen']; exact .of q3, q4, ?_, ?_, ?_⟩⟩
      · intro y hy
        rcases List.mem_append.1 hy with hy | hy
        · exact h5 y (List.mem_of_mem_take hy)
        · exact hw2 y hy
      · intro v hv
        simp only [hlen'] at hv
        rw [q5] at hv
        rcases List.mem_append.1 hv with hv | hv
        · refine h6 v ?_
          have : cur.toList.take (len * row.n) = (cur.toList.take (row.xs.length * row.n)).take (len * row.n) := by rw [List.take_take, Nat.min_eq_left (Nat.mul_le_mul_right _ hll)]
          rw [this] at hv
          exact List.mem_of_mem_take hv
        · exact hx.cell v hv
      · simp only [hlen']
        show RelL w' G (flat (row.xs.take len ++ xs2)) (cur'.toList.take ((len + xs2.length) * row.n)) (F1 ++ F2)
        rw [q5, flat_append]
        exact (hp.append hrel).move_ hGne hFeq
    · have hgs1 : ((gs.add r (some b') (F1 ++ F2)) r).1 = some b' := by rw [hself]
      have := TRel.vw (w := w') (G := G) (rows := (S.turn r (some ⟨row.n, row.xs.take len ++ xs2, false⟩)).rows) (gs := gs.add r (some b') (F1 ++ F2)) (off := 0) (len := len + xs2.length) (k := 0) hrow' hgs1 (by rw [hlen']; omega) q1 q2 q4 (by rw [hlen']; exact q3) (.inl (by simp))
      simpa using this
  · -- the nil slice
    rw [hr] at hr'
    obtain rfl := Option.some.inj hr'
    have hgn := vw_nil hsv hob
    have hall : gs.all r = [] := by simp [Gh.all, hgn]
    have htk : row.xs.take 0 ++ xs2 = xs2 := by simp
    by_cases hm0 : xs2.length = 0
    · have hx2 : xs2 = [] := List.eq_nil_of_length_eq_zero hm0
      subst hx2
      refine ⟨w, _, none, [], run_append_nil0 (ty := ty) ht hs hx, hi.turn hr rfl rfl rfl (Nat.le_refl _) (fun _ _ _ => rfl) (by simp) (by simp) (by simp) ?_, ?_⟩
      · intro row' hrow
        obtain rfl := Option.some.inj hrow
        exact ⟨rfl, fun rows' gs' => .inl ⟨by simp, rfl⟩⟩
      · exact .vwn hrow' (by rw [hself]) (by simp)
    · simp only [Nat.zero_add] at hb hm
      obtain ⟨cur', cap', hrun, q2, q3, q4, q5⟩ := run_append_nil_fw (ty := ty) ht hs hz hzs hsp hx hb hm hm0
      have hGne : ∀ c, G c → G c ∧ (w.drew.alloc (.cells cur' e)).heap[c]? = w.heap[c]? := fun c hc => ⟨hc, heap_alloc_old w.drew _ c (hi.glt c hc)⟩
      have hnew : (w.drew.alloc (.cells cur' e)).heap[w.heap.size]? = some (.cells cur' e (0, 0)) := heap_alloc_new w.drew _
      refine ⟨_, _, some w.heap.size, F2, hrun, hi.turn hr rfl rfl rfl (by simp) (fun c hc _ => heap_alloc_old w.drew _ c hc) ?_ ?_ ?_ ?_, ?_⟩
      · exact List.nodup_cons.2 ⟨fun h => by have := hRlt _ (hsub _ h); omega, hnd⟩
      · intro c hc
        rcases List.mem_cons.1 hc with rfl | hc
        · exact ⟨fun hg => by have := hi.glt _ hg; omega, .inr hi.size⟩
        · exact hR.own c (hsub c hc)
      · intro r' row' hne hr' c hc hc2
        rcases List.mem_cons.1 hc2 with rfl | hc2
        · have := hi.block_lt hr' _ hc; omega
        · exact hR.dis r' row' hr' c hc (hsub c hc2)
      · intro row' hrow
        obtain rfl := Option.some.inj hrow
        refine ⟨rfl, fun rows' gs' => ⟨cur', e, cap', hnew, q2, by rw [htk]; exact .of q3, q4, ?_, ?_, ?_⟩⟩
        · rw [htk]; exact hw2
        · rw [htk, q5]; exact hx.cell
        · rw [htk]
          show RelL _ G (flat xs2) (cur'.toList.take (xs2.length * row.n)) F2
          rw [q5]
          exact hrel.move_ hGne fun c hc => heap_alloc_old w.drew _ c (hRlt c (hsub c hc))
      · have hgs1 : ((gs.add r (some w.heap.size) F2) r).1 = some w.heap.size := by rw [hself]
        have := TRel.vw (w := w.drew.alloc (.cells cur' e)) (G := G) (rows := (S.turn r (some ⟨row.n, row.xs.take 0 ++ xs2, false⟩)).rows) (gs := gs.add r (some w.heap.size) F2) (off := 0) (len := 0 + xs2.length) (k := 0) hrow' hgs1 (by show 0 + (0 + xs2.length) ≤ (row.xs.take 0 ++ xs2).length; rw [htk]; omega) hnew q2 q4 (by show (row.xs.take 0 ++ xs2).length ≤ cap'; rw [htk]; exact q3) (.inl (by simp))
        simpa using this

theorem exec_append {o : Oper} {x y : Operand} {t : TypeId} (ho : o.op = .call { callee := .builtin .append, args := #[x, y], argTypes := #[t, t] }) {v : Value} {w' : World}
    (hr : (Builtin.append_ #[t, t] o.type #[a.eval x, a.eval y]).run P w = .ok v w') : (execOp a.eval o).run P w = .ok (.value v) w' := by
  simp [execOp, ho, resolve, invoke, builtin, hr]

/-- append(xs, ys...), ys left as they are. -/
theorem opOK_append {o : Oper} {K : State → Prop} {x y : Operand} {t e : TypeId} {r len : Nat} {row : Row} {xs2 : List A} {z : Value} (ho : o.op = .call { callee := .builtin .append, args := #[x, y], argTypes := #[t, t] }) (hx : okO x = true) (hy : okO y = true)
    (h1 : ev S x = .vw r 0 len) (hr : rowAt S.rows r = some row) (hlk : row.lk = false) (h2 : elemsA S (ev S y) = some xs2) (hn : ev S y = .nil ∨ nA S (ev S y) = some row.n) (hno : ∀ y ∈ xs2, noOwn y = true)
    (hlk2 : ∀ r off len row, ev S y = .vw r off len → rowAt S.rows r = some row → row.lk = false) (hok : ∀ c ∈ flat xs2, okCell c = true)
    (ht : elemT P t = some e) (hs : szT P e = some row.n) (hz : zeroT P e = some z) (hzs : z.cells.size = row.n) (hsp : 0 < row.n) (hb : (len + xs2.length) * bytesT P e ≤ 140737488355328) (hm : len + xs2.length ≤ maxLen)
    (hK : K ((S.turn r (some ⟨row.n, row.xs.take len ++ xs2, false⟩)).put o.dst (.vw r 0 (len + xs2.length)))) : opOK P o S K := by
  intro E a w next Q hss hnx
  obtain ⟨hd, G, gs, hi⟩ := hss
  have e1 := ev_rel hi x hx
  have e2 := ev_rel hi y hy
  rw [h1] at e1
  obtain ⟨news, hsrc, hrel, hw2⟩ := source_ok (P := P) hi e2 h2 hn hno hlk2 hok
  obtain ⟨w', v', ob, F', hrun, hinv, hvw⟩ := append_core (ty := o.type) hi (R := []) (F2 := []) Res.nil (by simp) (by simp) .nil hr hlk e1 hsrc hrel hw2 ht hs hz hzs hsp hb hm
  unfold Oper.wp
  rw [exec_append ho hrun]
  exact hnx _ _ _ hK ⟨by rw [put_defers]; exact hd, G, _, Inv.put (S := S.turn r _) hinv hvw o.dst⟩

/-- append(nil, ys...): a row more. -/
theorem opOK_append_nil {o : Oper} {K : State → Prop} {x y : Operand} {t e : TypeId} {s : Nat} {xs2 : List A} {z : Value} (ho : o.op = .call { callee := .builtin .append, args := #[x, y], argTypes := #[t, t] }) (hx : okO x = true) (hy : okO y = true)
    (h1 : ev S x = .nil) (h2 : elemsA S (ev S y) = some xs2) (hn : ev S y = .nil ∨ nA S (ev S y) = some s) (hno : ∀ y ∈ xs2, noOwn y = true)
    (hlk2 : ∀ r off len row, ev S y = .vw r off len → rowAt S.rows r = some row → row.lk = false) (hok : ∀ c ∈ flat xs2, okCell c = true)
    (ht : elemT P t = some e) (hs : szT P e = some s) (hz : zeroT P e = some z) (hzs : z.cells.size = s) (hsp : 0 < s) (hb : xs2.length * bytesT P e ≤ 140737488355328) (hm : xs2.length ≤ maxLen)
    (hK : K ((S.addRow ⟨s, xs2, false⟩).put o.dst (.vw S.rows.length 0 xs2.length))) : opOK P o S K := by
  intro E a w next Q hss hnx
  obtain ⟨hd, G, gs, hi⟩ := hss
  have e1 := ev_rel hi x hx
  have e2 := ev_rel hi y hy
  rw [h1] at e1
  have hv : a.eval x = .slice none 0 0 := by
    generalize a.eval x = u at e1
    cases e1 with | of h => cases h; rfl
  obtain ⟨news, hsrc, hrel, hw2⟩ := source_ok (P := P) hi e2 h2 hn hno hlk2 hok
  have hrow : rowAt (S.addRow ⟨s, xs2, false⟩).rows S.rows.length = some ⟨s, xs2, false⟩ := by
    show rowAt (S.rows ++ [some _]) S.rows.length = _
    rw [rowAt_push, if_pos rfl]
  unfold Oper.wp
  by_cases hm0 : xs2.length = 0
  · have hx2 : xs2 = [] := List.eq_nil_of_length_eq_zero hm0
    subst hx2
    have hrun := run_append_nil0 (ty := o.type) ht hs hsrc
    rw [← hv] at hrun
    rw [exec_append ho hrun]
    have hinv := hi.adopt (w' := w) (G' := G) (R := []) (ob := none) (row := ⟨s, [], false⟩) rfl rfl rfl (Nat.le_refl _) (fun _ _ => rfl) (fun _ h => h) (fun _ h => .inl h) hi.glt (by simp) (by simp) (by simp) (fun _ _ _ => .inl ⟨rfl, rfl⟩)
    refine hnx _ _ _ hK ⟨by rw [put_defers]; exact hd, G, _, Inv.put (S := S.addRow _) hinv ?_ o.dst⟩
    rw [hv]
    exact .vwn (gs := gs.add S.rows.length none []) hrow (by show (if S.rows.length = S.rows.length then _ else _ : Option Nat × List Nat) = _; rw [if_pos rfl]) rfl
  · obtain ⟨cur', cap', hrun, q2, q3, q4, q5⟩ := run_append_nil_fw (ty := o.type) ht hs hz hzs hsp hsrc hb hm hm0
    rw [← hv] at hrun
    rw [exec_append ho hrun]
    have hnew : (w.drew.alloc (.cells cur' e)).heap[w.heap.size]? = some (.cells cur' e (0, 0)) := heap_alloc_new w.drew _
    have hG : ∀ b, G b → G b ∧ (w.drew.alloc (.cells cur' e)).heap[b]? = w.heap[b]? := fun c hc => ⟨hc, heap_alloc_old w.drew _ c (hi.glt c hc)⟩
    have hinv := hi.adopt (w' := w.drew.alloc (.cells cur' e)) (G' := G) (R := []) (ob := some w.heap.size) (row := ⟨s, xs2, false⟩) rfl rfl rfl (by simp) (fun c hc => heap_alloc_old w.drew _ c hc) (fun _ h => h) (fun _ h => .inl h)
      (fun b hb => by have := hi.glt b hb; simp; omega) (by simp) (by
        intro b hb
        have hb : b ∈ [w.heap.size] := hb
        simp at hb; subst hb
        exact ⟨fun h => by have := hi.glt _ h; omega, .inr hi.size⟩) (by
        intro r row' hr b hb hb2
        have hb2 : b ∈ [w.heap.size] := hb2
        simp at hb2; subst hb2
        have := hi.block_lt hr _ hb; omega) (fun rows' gs' _ => ⟨cur', e, cap', hnew, q2, .of q3, q4, hw2, by
          show ∀ v ∈ cur'.toList.take (xs2.length * s), _
          rw [q5]; exact hsrc.cell, by
          show RelL _ G (flat xs2) (cur'.toList.take (xs2.length * s)) []
          rw [q5]; exact hrel.move_ hG (by simp)⟩)
    refine hnx _ _ _ hK ⟨by rw [put_defers]; exact hd, G, _, Inv.put (S := S.addRow _) hinv ?_ o.dst⟩
    have := TRel.vw (w := w.drew.alloc (.cells cur' e)) (G := G) (rows := (S.addRow ⟨s, xs2, false⟩).rows) (gs := gs.add S.rows.length (some w.heap.size) []) (off := 0) (len := xs2.length) (k := 0) hrow (by simp [Gh.add]) (by simp) hnew q2 q4 q3 (.inl (by simp))
    simpa using this

/-- append(xs, ys...) where ys is an own row that goes with it: what its elements hold alone they go on to hold alone. -/
theorem opOK_append_move {o : Oper} {K : State → Prop} {x y : Operand} {t e : TypeId} {r len r2 len2 : Nat} {row row2 : Row} {z : Value} (ho : o.op = .call { callee := .builtin .append, args := #[x, y], argTypes := #[t, t] }) (hx : okO x = true) (hy : okO y = true)
    (h1 : ev S x = .vw r 0 len) (hr : rowAt S.rows r = some row) (hlk : row.lk = false) (h2 : ev S y = .vw r2 0 len2) (hr2 : rowAt S.rows r2 = some row2) (hlen2 : len2 = row2.xs.length) (hlk2 : row2.lk = false) (hne : r2 ≠ r) (hnn : row2.n = row.n)
    (hok : ∀ c ∈ flat row2.xs, okCell c = true)
    (ht : elemT P t = some e) (hs : szT P e = some row.n) (hz : zeroT P e = some z) (hzs : z.cells.size = row.n) (hsp : 0 < row.n) (hb : (len + row2.xs.length) * bytesT P e ≤ 140737488355328) (hm : len + row2.xs.length ≤ maxLen)
    (hK : K (((S.turn r2 none).turn r (some ⟨row.n, row.xs.take len ++ row2.xs, false⟩)).put o.dst (.vw r 0 (len + row2.xs.length)))) : opOK P o S K := by
  intro E a w next Q hss hnx
  obtain ⟨hd, G, gs, hi⟩ := hss
  have e1 := ev_rel hi x hx
  have e2 := ev_rel hi y hy
  rw [h1] at e1
  rw [h2] at e2
  obtain ⟨F, hst, hrelr⟩ := stash1_ok hi Res.nil (x := .vw r2 0 len2) e2 (by simp only [stash1, hr2]; exact ⟨trivial, by omega, hlk2⟩)
  simp only [stash1, hr2] at hst hrelr
  rw [List.take_of_length_le (by omega)] at hrelr
  have e1' := hst.step _ _ e1
  have hkill : kills [r2] (.vw r 0 len) = .vw r 0 len := by simp [kills, kill_vw, Ne.symm hne]
  rw [hkill] at e1'
  have hr' := hst.rows r row (by simp [Ne.symm hne]) hr hlk
  have hlt : ∀ b ∈ F, b < w.heap.size := by simpa using hst.lt (by simp)
  have hres : Res E G gs (S.turn r2 none).rows F := by simpa using hst.res
  -- the source
  have hsrc : ∃ news F2, Source P w row.n row2.xs.length (a.eval y) news ∧ RelL w G (flat row2.xs) news F2 ∧ (∀ y ∈ row2.xs, y.width = row.n) ∧ (∀ b ∈ F2, b ∈ F) ∧ F2.Nodup := by
    generalize a.eval y = v at hrelr e2
    generalize hxs : row2.xs = xs at *
    cases hrelr with
    | nils => exact ⟨[], [], ⟨by simp, fun w' => by simp [Builtin.lenOf], fun w' _ => by simp [Builtin.firstCells], by simp⟩, .nil, by simp, by simp, .nil⟩
    | ow hh hw hlen hc hl hcap hmx hsz hvv =>
      rename_i b l cap cur et cs F2
      subst hlen
      have hlen : cs.length = xs.length * row.n := by rw [hl.length, flat_length hw, hnn]
      refine ⟨cs, F2, ⟨hlen, fun w' => by simp [Builtin.lenOf], fun w' hw' => ?_, okCells_v (TRelL.of (rows := []) (gs := gs) hl) (List.all_eq_true.2 hok)⟩, hl, fun y hy => by rw [← hnn]; exact hw y hy, fun b hb => by simp [hb], ?_⟩
      · refine run_firstCells_some (P := P) w' row.n _ ⟨b, 0, none⟩ _ cap _ hlen (fun j u hu => ?_)
        rw [add_none, cell_at (w := w') (by rw [hw']; exact hh)]
        have hj : j < cs.length := by
          rcases Nat.lt_or_ge j cs.length with h | h
          · exact h
          · rw [List.getElem?_eq_none h] at hu; simp at hu
        rw [hc] at hu
        rw [hlen] at hj
        rw [hnn, List.getElem?_take_of_lt hj] at hu
        simpa using hu
      · exact (List.nodup_cons.1 hres.nod).2
  obtain ⟨news, F2, hs1, hs2, hs3, hs4, hs5⟩ := hsrc
  obtain ⟨w', v', ob, F', hrun, hinv, hvw⟩ := append_core (ty := o.type) hst.inv hres hlt hs4 hs5 hr' hlk e1' hs1 hs2 hs3 ht hs hz hzs hsp hb hm
  unfold Oper.wp
  rw [exec_append ho hrun]
  exact hnx _ _ _ hK ⟨by rw [put_defers]; exact hd, G, _, Inv.put (S := (S.turn r2 none).turn r _) hinv hvw o.dst⟩
end
end Go.Fw

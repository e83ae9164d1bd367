/- Operations that leave memory alone: what they do to an abstract state. Plain theorems, no condition. -/
import Derived.Test.YtdngjnjapihbkaaFw3
import Derived.Laws.Strings
import Derived.Laws.Shifts
import Derived.Laws.BytesString
set_option linter.unusedVariables false
set_option linter.unusedSimpArgs false
namespace Go.Fw

def szT (P : Program) (t : TypeId) : Option Nat := (P.info? t).map (·.size)
def zeroT (P : Program) (t : TypeId) : Option Value := (P.info? t).bind (·.zero)
def bytesT (P : Program) (t : TypeId) : Nat := ((P.info? t).map (·.bytes)).getD 0
def elemT (P : Program) (t : TypeId) : Option TypeId := match P.underlying t with | some (.slice e) => some e | _ => none
def aggD : TypeDesc → Bool
  | .struct _ => true
  | .array _ _ => true
  | _ => false
def aggT (P : Program) (t : TypeId) : Option Bool := (P.underlying t).map aggD
/-- Field i of a struct type: where it begins, its cells, is it a struct. -/
def fieldT (P : Program) (t : TypeId) (i : Nat) : Option (Nat × Nat × Bool) :=
  match P.underlying t with
  | some (.struct fs) => match fs[i]? with
    | some f => match szT P f.type, aggT P f.type with
      | some s, some g => some (f.offset, s, g)
      | _, _ => none
    | none => none
  | _ => none
def kindT (P : Program) (t : TypeId) : Option IntKind := match P.underlying t with | some (.int k) => some k | _ => none
def isStrT (P : Program) (t : TypeId) : Bool := match P.underlying t with | some .string => true | _ => false
def isBoolT (P : Program) (t : TypeId) : Bool := match P.underlying t with | some .bool => true | _ => false

/-- A string by its bytes, and its bytes. -/
def mkS (l : List UInt8) : ByteArray := ⟨l.toArray⟩
def bs (s : ByteArray) : List UInt8 := s.data.toList
theorem bs_mkS (l : List UInt8) : bs (mkS l) = l := rfl
theorem mkS_bs (s : ByteArray) : mkS (bs s) = s := rfl
theorem bs_lit (a : Array UInt8) : bs ⟨a⟩ = a.toList := rfl
theorem size_mkS (l : List UInt8) : (mkS l).size = l.length := by simp [mkS, ByteArray.size]
theorem bs_length (s : ByteArray) : (bs s).length = s.size := Array.length_toList
theorem toList_bs (s : ByteArray) : s.toList = bs s := ByteArray.toList_eq s
def cellA : Value → A
  | .slice none 0 0 => .nil
  | .string s => .sc (.string (mkS (bs s)))
  | v => .sc v
def constA : Value → A
  | .agg cs => .agg (cs.toList.map cellA)
  | v => cellA v
def okV : Value → Bool
  | .agg cs => cs.toList.all cellV
  | .tuple _ => false
  | _ => true
def ev (S : State) : Operand → A
  | .tmp i => if i < S.N then lk S.t i else .un
  | .const v => if okV v then constA v else .un
  | .func f => if f < 1000000 then .clo f [] else .un
  | .global _ => .un
def State.put (S : State) (d : Option Nat) (x : A) : State :=
  match d with
  | none => S
  | some d => if d < S.N then { S with t := (d, x) :: S.t } else S

theorem rel_cellA {w : World} {G : Nat → Prop} {v : Value} (h : cellV v = true) : Rel w G (cellA v) v [] := by
  unfold cellA
  split
  · exact .nil
  · exact .sc h
  · exact .sc h
theorem relL_cells {w : World} {G : Nat → Prop} : ∀ (cs : List Value), cs.all cellV = true → RelL w G (cs.map cellA) cs []
  | [], _ => .nil
  | v :: cs, h => by
    simp only [List.all_cons, Bool.and_eq_true] at h
    exact .cons (F := []) (rel_cellA h.1) (relL_cells cs h.2)
theorem rel_constA {w : World} {G : Nat → Prop} {v : Value} (h : okV v = true) : Rel w G (constA v) v [] := by
  unfold constA
  split
  · rename_i cs
    have := relL_cells (w := w) (G := G) cs.toList h
    simpa using Rel.agg this
  · rename_i hne
    refine rel_cellA ?_
    cases v <;> simp_all [okV, cellV, Value.oneCell']

section
variable {P : Program} {E : Env} {G : Nat → Prop} {gs : Gh} {S : State} {a : Act} {w : World}

theorem Inv.vat_tmp {tmps : Array Value} (h : Inv E G gs S tmps w) {i : Nat} (hi : i < S.N) : vat E tmps i = tmps.getD i undef := by
  unfold vat
  rw [if_pos (by rw [h.sz]; exact hi)]
/-- The operands that mean something. -/
def okO : Operand → Bool := fun _ => true
theorem ev_rel (h : Inv E G gs S a.tmps w) (x : Operand) (hx : okO x = true) : TRel w G S.rows gs (ev S x) (a.eval x) [] := by
  cases x with
  | tmp i =>
    show TRel w G S.rows gs (if i < S.N then lk S.t i else .un) (a.tmps.getD i undef) []
    split
    · rename_i hi
      have := h.tmp i
      rwa [h.vat_tmp hi] at this
    · exact .un
  | const v =>
    show TRel w G S.rows gs (if okV v then constA v else .un) v []
    split
    · rename_i h; exact .of (rel_constA h)
    · exact .un
  | global g => exact .un
  | func f =>
    show TRel w G S.rows gs (if f < 1000000 then .clo f [] else .un) (.func (.func f) #[] #[]) []
    split
    · rename_i h
      have := TRel.of (rows := S.rows) (gs := gs) (Rel.clo (w := w) (G := G) (g := f) (caps := []) (cs := []) .nil)
      unfold mkFn at this
      rw [if_pos h] at this
      exact this
    · exact .un

theorem put_size (d : Option Nat) (v : Value) : (a.put d v).tmps.size = a.tmps.size := by cases d <;> simp [Act.put]
theorem put_defers (d : Option Nat) (v : Value) : (a.put d v).defers = a.defers := by cases d <;> rfl
theorem Inv.put (h : Inv E G gs S a.tmps w) {x : A} {v : Value} (hx : TRel w G S.rows gs x v []) (d : Option Nat) : Inv E G gs (S.put d x) (a.put d v).tmps w := by
  cases d with
  | none => exact h
  | some d =>
    unfold State.put
    dsimp only
    split
    · rename_i hd
      refine ⟨h.keep, h.os, h.tape, h.output, h.size, by rw [put_size]; exact h.sz, h.gsub, h.gnew, h.glt, h.row, h.nod, h.own, h.dis, fun i => ?_⟩
      show TRel w G S.rows gs (lk ((d, x) :: S.t) i) _ []
      simp only [lk]
      have hs : d < a.tmps.size := by rw [h.sz]; exact hd
      split
      · rename_i hi
        subst hi
        have : vat E (a.put (some d) v).tmps d = v := by simp [vat, Act.put, Array.getD_eq_getD_getElem?, hs]
        rw [this]; exact hx
      · rename_i hi
        have : vat E (a.put (some d) v).tmps i = vat E a.tmps i := by simp [vat, Act.put, Array.getD_eq_getD_getElem?, Array.getElem?_setIfInBounds, hi]
        rw [this]; exact h.tmp i
    · rename_i hd
      have : (a.put (some d) v).tmps = a.tmps := by
        have hs : ¬ d < a.tmps.size := by rw [h.sz]; exact hd
        simp only [Act.put]
        exact Array.setIfInBounds_eq_of_size_le (by omega)
      rw [this]; exact h

def opOK (P : Program) (o : Oper) (S : State) (K : State → Prop) : Prop :=
  ∀ E a w (next : Act → World → Prop) (Q : Exit → Act → World → Prop), SInv E S a w → (∀ S' a' w', K S' → SInv E S' a' w' → next a' w') → o.wp P a w next Q

/-- The operation yields a value told by x, the same one however memory has grown. -/
def VOK (P : Program) (o : Oper) (S : State) (x : A) : Prop :=
  ∀ (E : Env) (G : Nat → Prop) (gs : Gh) (a : Act) (w : World), Inv E G gs S a.tmps w →
    ∃ v, (∀ w', Go.RowKit.Below w.heap.size w w' → (execOp a.eval o).run P w' = .ok (.value v) w') ∧ TRel w G S.rows gs x v []
theorem keep_at {w' : World} {b : Nat} {ob : Obj} (hb : Go.RowKit.Below w.heap.size w w') (h : w.heap[b]? = some ob) : w'.heap[b]? = some ob := by
  rw [hb.block b (Array.getElem?_eq_some_iff.1 h).1]; exact h
theorem opOK_value {o : Oper} {K : State → Prop} (x : A) (hK : K (S.put o.dst x))
    (h : ∀ (E : Env) (G : Nat → Prop) (gs : Gh) (a : Act) (w : World), Inv E G gs S a.tmps w → ∃ v, (execOp a.eval o).run P w = .ok (.value v) w ∧ TRel w G S.rows gs x v []) : opOK P o S K := by
  intro E a w next Q hs hn
  obtain ⟨hd, G, gs, hi⟩ := hs
  obtain ⟨v, hr, hx⟩ := h E G gs a w hi
  unfold Oper.wp
  rw [hr]
  exact hn _ _ _ hK ⟨by rw [put_defers]; exact hd, G, gs, hi.put hx o.dst⟩

theorem opOK_of {o : Oper} {K : State → Prop} {x : A} (h : VOK P o S x) (hK : K (S.put o.dst x)) : opOK P o S K :=
  opOK_value x hK fun E G gs a w hi => by
    obtain ⟨v, h1, h2⟩ := h E G gs a w hi
    exact ⟨v, h1 w (Go.RowKit.Below.refl _ _), h2⟩

def pickA (b : Bool) : A → A → A
  | .sc (.bool p), .sc (.bool q) => .sc (.bool (if b then p else q))
  | x, y => if b then x else y
theorem pick_rel {rows : List (Option Row)} {b : Bool} {x y : A} {u v : Value} (hx : b = true → TRel w G rows gs x u []) (hy : b = false → TRel w G rows gs y v []) :
    TRel w G rows gs (pickA b x y) (if b then u else v) [] := by
  cases b with
  | true =>
    have := hx rfl
    unfold pickA
    split <;> simpa using this
  | false =>
    have := hy rfl
    unfold pickA
    split <;> simpa using this
theorem sc_inv {rows : List (Option Row)} {v u : Value} {F : List Nat} (h : TRel w G rows gs (.sc v) u F) : u = v ∧ cellV v = true := by
  cases h with
  | of h => cases h with | sc h => exact ⟨rfl, h⟩
theorem agg_inv {rows : List (Option Row)} {xs : List A} {u : Value} {F : List Nat} (h : TRel w G rows gs (.agg xs) u F) : ∃ cs, u = .agg cs ∧ TRelL w G rows gs xs cs.toList F := by
  cases h with
  | of h => cases h with | agg h => exact ⟨_, rfl, by simpa using TRelL.of h⟩
  | agg h => exact ⟨_, rfl, by simpa using h⟩
theorem tup_inv {rows : List (Option Row)} {xs : List A} {u : Value} {F : List Nat} (h : TRel w G rows gs (.tup xs) u F) : ∃ cs, u = .tuple cs ∧ TRelL w G rows gs xs cs.toList F := by
  cases h with
  | of h => cases h with | tup h => exact ⟨_, rfl, by simpa using TRelL.of h⟩
  | tup h => exact ⟨_, rfl, by simpa using h⟩
theorem TRelL.get {rows : List (Option Row)} : ∀ {xs : List A} {vs : List Value}, TRelL w G rows gs xs vs [] → ∀ (i : Nat) (x : A), xs[i]? = some x → ∃ v, vs[i]? = some v ∧ TRel w G rows gs x v []
  | _, _, h, i, x, hx => by
    generalize hF : ([] : List Nat) = F at h
    cases h with
    | nil => simp at hx
    | cons h hl =>
      rename_i y v F xs vs Fs
      have hF' : F = [] ∧ Fs = [] := by simpa using hF.symm
      obtain ⟨rfl, rfl⟩ := hF'
      cases i with
      | zero => simp at hx; subst hx; exact ⟨_, rfl, h⟩
      | succ i => simpa using hl.get i x (by simpa using hx)
theorem TRelL.take0 {rows : List (Option Row)} : ∀ {xs : List A} {vs : List Value} (n : Nat), TRelL w G rows gs xs vs [] → TRelL w G rows gs (xs.take n) (vs.take n) []
  | xs, vs, 0, h => by simpa using TRelL.nil
  | xs, vs, n + 1, h => by
    generalize hF : ([] : List Nat) = F at h
    cases h with
    | nil => rw [← hF]; simpa using TRelL.nil
    | cons h hl =>
      rename_i y v F xs vs Fs
      have hF' : F = [] ∧ Fs = [] := by simpa using hF.symm
      obtain ⟨rfl, rfl⟩ := hF'
      simpa using TRelL.cons h (hl.take0 n)
theorem TRelL.drop0 {rows : List (Option Row)} : ∀ {xs : List A} {vs : List Value} (n : Nat), TRelL w G rows gs xs vs [] → TRelL w G rows gs (xs.drop n) (vs.drop n) []
  | xs, vs, 0, h => by simpa using h
  | xs, vs, n + 1, h => by
    generalize hF : ([] : List Nat) = F at h
    cases h with
    | nil => rw [← hF]; simpa using TRelL.nil
    | cons h hl =>
      rename_i y v F xs vs Fs
      have hF' : F = [] ∧ Fs = [] := by simpa using hF.symm
      obtain ⟨rfl, rfl⟩ := hF'
      simpa using hl.drop0 n
theorem TRelL.append0 {rows : List (Option Row)} {ys : List A} {us : List Value} :
    ∀ {xs : List A} {vs : List Value}, TRelL w G rows gs xs vs [] → TRelL w G rows gs ys us [] → TRelL w G rows gs (xs ++ ys) (vs ++ us) []
  | xs, vs, h, h' => by
    generalize hF : ([] : List Nat) = F at h
    cases h with
    | nil => rw [← hF]; simpa using h'
    | cons h hl =>
      rename_i y v F xs vs Fs
      have hF' : F = [] ∧ Fs = [] := by simpa using hF.symm
      obtain ⟨rfl, rfl⟩ := hF'
      simpa using TRelL.cons h (hl.append0 h')

theorem VOK_move {o : Oper} {x : Operand} (ho : o.op = .move x ∨ o.op = .assign x) (hx : okO x = true) : VOK P o S (ev S x) :=
  fun E G gs a w hi => ⟨a.eval x, fun w' hw' => by rcases ho with h | h <;> simp [execOp, h], ev_rel hi x hx⟩
theorem VOK_pick {o : Oper} {c x y : Operand} {b : Bool} (ho : o.op = .pick c x y) (hx : okO x = true) (hy : okO y = true) (hc : ev S c = .sc (.bool b)) (hco : okO c = true)
    : VOK P o S (pickA b (ev S x) (ev S y)) := by
  refine fun E G gs a w hi => ⟨if b then a.eval x else a.eval y, ?_, ?_⟩
  · have hb := ev_rel hi c hco
    rw [hc] at hb
    have hv := (sc_inv hb).1
    intro w' hw'
    simp [execOp, ho, hv, asBool]
  · exact pick_rel (fun _ => ev_rel hi x hx) (fun _ => ev_rel hi y hy)

def unS : UnOp → Value → Option Value
  | .not, .bool b => some (.bool !b)
  | .neg, .int k n => some (.int k (k.wrap (0 - n)))
  | _, _ => none
theorem VOK_unOp {o : Oper} {op : UnOp} {t : TypeId} {x : Operand} {u v : Value} (ho : o.op = .unOp op t x) (hx : okO x = true) (he : ev S x = .sc u) (hu : unS op u = some v)
    : VOK P o S (.sc v) := by
  refine fun E G gs a w hi => ⟨v, ?_, ?_⟩
  · have hb := ev_rel hi x hx
    rw [he] at hb
    have hv := (sc_inv hb).1
    intro w' hw'
    cases op <;> cases u <;> simp [unS] at hu <;> subst hu <;> simp [execOp, ho, hv, Op.unary, Op.intArith]
  · cases op <;> cases u <;> simp [unS] at hu <;> subst hu <;> exact .of (.sc rfl)

/-- Operators on scalars: what must hold, and what comes out. -/
def binS (P : Program) (op : BinOp) (t : TypeId) : Value → Value → Prop × Value
  | .int k x, .int k' y =>
    match op with
    | .add => (k = k', .int k (k.wrap (x + y)))
    | .sub => (k = k', .int k (k.wrap (x - y)))
    | .mul => (k = k', .int k (k.wrap (x * y)))
    | .quo => (k = k' ∧ y ≠ 0, .int k (k.wrap (x.tdiv y)))
    | .rem => (k = k' ∧ y ≠ 0, .int k (x.tmod y))
    | .and => (k = k', .int k (bits .and k x y))
    | .or => (k = k', .int k (bits .or k x y))
    | .xor => (k = k', .int k (bits .xor k x y))
    | .andNot => (k = k', .int k (bits .andNot k x y))
    | .shl => (0 ≤ y ∧ y ≤ k.bits, .int k (k.wrap (x * 2 ^ y.toNat)))
    | .shr => (0 ≤ y ∧ y ≤ k.bits, .int k (x / 2 ^ y.toNat))
    | .eql => (k = k', .bool (x == y))
    | .neq => (k = k', .bool (x != y))
    | .lss => (k = k', .bool (decide (x < y)))
    | .leq => (k = k', .bool (decide (x ≤ y)))
    | .gtr => (k = k', .bool (decide (x > y)))
    | .geq => (k = k', .bool (decide (x ≥ y)))
  | .string x, .string y =>
    match op with
    | .add => ((((bs x).length + (bs y).length : Nat) : Int) ≤ 9223372036854775807, .string (mkS (bs x ++ bs y)))
    | .eql => (True, .bool (bs x == bs y))
    | .neq => (True, .bool (bs x != bs y))
    | .lss => (True, .bool (Op.bytesLess (bs x) (bs y)))
    | .leq => (True, .bool (Op.bytesLess (bs x) (bs y) || bs x == bs y))
    | .gtr => (True, .bool !(Op.bytesLess (bs x) (bs y) || bs x == bs y))
    | .geq => (True, .bool !(Op.bytesLess (bs x) (bs y)))
    | _ => (False, .bool false)
  | .bool x, .bool y =>
    match op with
    | .eql => (isBoolT P t = true, .bool (x == y))
    | .neq => (isBoolT P t = true, .bool (x != y))
    | _ => (False, .bool false)
  | _, _ => (False, .bool false)
theorem binS_run {op : BinOp} {t : TypeId} {u v : Value} (h : (binS P op t u v).1) (x y : Operand) (w : World) :
    (do eqGuard op t x y u v; binOp op t u v : Sem Value).run P w = .ok (binS P op t u v).2 w ∧ cellV (binS P op t u v).2 = true := by
  cases u <;> cases v <;> try exact h.elim
  case int.int k a k' b =>
    cases op <;> simp only [binS] at h <;> first | (obtain ⟨rfl, h0⟩ := h) | (obtain rfl := h) | skip
    all_goals try (simp [binS, binOp, eqGuard, Op.intArith, Op.intDiv, Op.intBits, Op.intCmp, bits, cellV, Value.oneCell', *]; done)
    · refine ⟨?_, rfl⟩
      simp [binS, eqGuard, binOp_shl, shift_shl _ _ _ _ h.1 h.2]
    · refine ⟨?_, rfl⟩
      simp [binS, eqGuard, binOp_shr, shift_shr _ _ _ _ h.1 h.2]
  case string.string a b =>
    cases op <;> try exact h.elim
    all_goals try (simp [binS, binOp, eqGuard, Op.stringOp, toList_bs, cellV, Value.oneCell', bne]; done)
    simp only [binS, bs_length] at h
    have h' : ¬ (9223372036854775807 < ((a.size : Int) + (b.size : Int))) := by omega
    have e : mkS (bs a ++ bs b) = a ++ b := by
      apply ByteArray.ext
      simp [mkS, bs]
    simp [binS, binOp, eqGuard, Op.stringOp, h', e, cellV, Value.oneCell']
  case bool.bool a b =>
    have hb : P.underlying t = some .bool := by
      cases op <;> try exact h.elim
      all_goals
        simp only [binS, isBoolT] at h
        split at h
        · assumption
        · simp at h
    have he : (Op.equal t (.bool a) (.bool b)).run P w = .ok (a == b) w := by
      have key : ∀ d, (Op.equalIn (d + 1) t (.bool a) (.bool b)).run P w = .ok (a == b) w := fun d => by
        simp only [Op.equalIn, Sem.run_bind, run_underlying hb, Result.andThen_ok]
        simp
      exact key 9999
    cases op <;> try exact h.elim
    all_goals refine ⟨?_, rfl⟩
    · show (do eqGuard .eql t x y (.bool a) (.bool b); (do pure (.bool (← Op.equal t (.bool a) (.bool b))) : Sem Value) : Sem Value).run P w = _
      simp only [eqGuard_at_bool, Sem.run_bind, Sem.run_pure, Result.andThen_ok, he]
      rfl
    · show (do eqGuard .neq t x y (.bool a) (.bool b); (do pure (.bool (!(← Op.equal t (.bool a) (.bool b)))) : Sem Value) : Sem Value).run P w = _
      simp only [eqGuard_at_bool, Sem.run_bind, Sem.run_pure, Result.andThen_ok, he]
      rfl
theorem VOK_binOp {o : Oper} {op : BinOp} {t t' : TypeId} {x y : Operand} {u v : Value} (ho : o.op = .binOp op t x y t') (hx : okO x = true) (hy : okO y = true)
    (h1 : ev S x = .sc u) (h2 : ev S y = .sc v) (h : (binS P op t u v).1) : VOK P o S (.sc (binS P op t u v).2) := by
  refine fun E G gs a w hi => ?_
  have e1 := ev_rel hi x hx
  have e2 := ev_rel hi y hy
  rw [h1] at e1
  rw [h2] at e2
  have v1 := (sc_inv e1).1
  have v2 := (sc_inv e2).1
  refine ⟨_, fun w' hw' => ?_, .of (.sc (binS_run h x y w).2)⟩
  have hr := (binS_run h x y w').1
  simp only [execOp, ho, v1, v2, Sem.run_bind] at hr ⊢
  rw [hr]
  rfl
end
end Go.Fw

/- Maps: what is made, laid in and looked up. Plain theorems, no condition. -/
import Derived.Test.YtomfmdfamlmfiaaGreatC5
import Derived.Deep.Slices
import Derived.ChangeStays
import Derived.OpenShut
import Derived.WalkKit
import Derived.ProofKit
set_option linter.unusedVariables false
set_option linter.unusedSimpArgs false
namespace Go.Fw
/-- What stands at a number in a map's entries. -/
def mfind (k : Int) : List A → Option A
  | [] => none
  | x :: l => match x with
    | .agg [.sc (.int _ j), z] => if k = j then some z else mfind k l
    | _ => mfind k l
/-- Entries of a map whose keys are integers of a kind. -/
def mok (kk : IntKind) : List A → Prop
  | [] => True
  | x :: l => (∃ j z, x = .agg [.sc (.int kk j), z] ∧ noOwn z = true) ∧ mok kk l
def lkA (ok : Bool) (r : Option A) (z : A) : A := match ok, r with
  | true, some x => .tup [x, .sc (.bool true)]
  | true, none => .tup [z, .sc (.bool false)]
  | false, some x => x
  | false, none => z
def lkV (ok : Bool) (r : Option (Nat × Value)) (z : Value) : Value := match ok, r with
  | true, some p => .tuple #[p.2, .bool true]
  | true, none => .tuple #[z, .bool false]
  | false, some p => p.2
  | false, none => z
section
variable {P : Program} {T : Nat → Option TI} {S : State} {E : Env P} {G : Nat → Prop} {gs : Gh} {a : Act} {w : World}

theorem findNow_ok {kk : IntKind} {k : Int} {d : TypeDesc} (hd : d = .int kk) : ∀ (xs : List A) (es : List MapEntry) (i : Nat), mok kk xs → RelL w G (flat xs) (es.flatMap fun e => [e.key, e.val]) [] →
    ∃ r, Instr.findNow d (.int kk k) es i = some r ∧ (match mfind k xs with | none => r = none | some z => ∃ j v, r = some (j, v) ∧ Rel w G z v [])
  | [], es, i, _, h => by
    have := h.length
    cases es with
    | nil => exact ⟨none, rfl, rfl⟩
    | cons e es => simp [flat] at this
  | x :: xs, es, i, hm, h => by
    obtain ⟨⟨j, z, rfl, hz⟩, hm⟩ := hm
    cases es with
    | nil => have := h.length; simp [flat, A.cells] at this
    | cons e es =>
      have e1 : flat (A.agg [.sc (.int kk j), z] :: xs) = .sc (.int kk j) :: z :: flat xs := by simp [flat, A.cells]
      rw [e1] at h
      simp only [List.flatMap_cons, List.cons_append, List.nil_append] at h
      generalize hF : ([] : List Nat) = F at h
      cases h with
      | cons h1 h2 =>
        rename_i F1 F2
        obtain ⟨rfl, rfl⟩ : F1 = [] ∧ F2 = [] := by simpa using hF.symm
        generalize hF' : ([] : List Nat) = F' at h2
        cases h2 with
        | cons h2 h3 =>
          rename_i F1 F2
          obtain ⟨rfl, rfl⟩ : F1 = [] ∧ F2 = [] := by simpa using hF'.symm
          have hk : e.key = .int kk j := by
            generalize e.key = v at h1
            cases h1; rfl
          obtain ⟨r, q1, q2⟩ := findNow_ok hd xs es (i + 1) hm h3
          subst hd
          by_cases hkj : k = j
          · subst hkj
            refine ⟨some (i, e.val), ?_, ?_⟩
            · unfold Instr.findNow
              simp [Instr.sameNow, hk]
            · simp only [mfind, if_pos]
              exact ⟨_, _, rfl, h2⟩
          · refine ⟨r, ?_, ?_⟩
            · unfold Instr.findNow
              have : (k == j) = false := by simpa using hkj
              simp only [Instr.sameNow, hk, if_pos, this]
              exact q1
            · simp only [mfind, if_neg hkj]
              exact q2

theorem run_checkKey {kt : TypeId} {kk : IntKind} (hk : P.underlying kt = some (.int kk)) (b : Bool) (k : Int) (w : World) : (Instr.checkKey b 10000 kt (.int kk k)).run P w = .ok () w := by
  have : ∀ n, (Instr.checkKey b (n + 1) kt (.int kk k)).run P w = .ok () w := fun n => by
    simp only [Instr.checkKey, Sem.run_bind, run_underlying hk w, Result.andThen_ok]
    rfl
  exact this 9999
theorem run_findKey {kt : TypeId} {kk : IntKind} (hk : P.underlying kt = some (.int kk)) {k : Int} {es : List MapEntry} {r : Option (Nat × Value)} (h : Instr.findNow (.int kk) (.int kk k) es 0 = some r) (w : World) :
    (Instr.findKey kt (.int kk k) es).run P w = .ok r w := by
  simp only [Instr.findKey, Sem.run_bind, run_underlying hk w, Result.andThen_ok, h]
  rfl
theorem run_getMap {b clock : Nat} {es : Array MapEntry} (h : w.heap[b]? = some (.map es clock)) : (getObj b).run P w = .ok (.map es clock) w := by
  simp [getObj, Sem.run, h]
theorem run_lookup {t kt et : TypeId} {kk : IntKind} {k : Int} {z0 : Value} (ht : P.underlying t = some (.map kt et)) (hk : P.underlying kt = some (.int kk)) (hz : zeroT P et = some z0) {b clock : Nat} {es : Array MapEntry}
    (hb : w.heap[b]? = some (.map es clock)) {r : Option (Nat × Value)} (hr : Instr.findNow (.int kk) (.int kk k) es.toList 0 = some r) (ok : Bool) :
    (Instr.lookup t (.map (some b)) (.int kk k) ok).run P w = .ok (lkV ok r z0) w := by
  simp only [Instr.lookup, Sem.run_bind, run_underlying ht w, Result.andThen_ok, run_getMap hb, Sem.run_pure, run_checkKey hk, run_findKey hk hr]
  cases r with
  | none =>
    simp only [Sem.run_bind, run_zero hz, Result.andThen_ok, Sem.run_pure]
    cases ok <;> rfl
  | some p => obtain ⟨i, v⟩ := p; cases ok <;> rfl
theorem map_real {tmps : Array Value} (hi : Inv E G gs S tmps w) {r : Nat} {row : Row} {v : Value} {F : List Nat} (hr : rowAt S.rows r = some row) (hv : TRel w G S.rows gs (.mp r) v F) :
    ∃ b clock ents, v = .map (some b) ∧ gs r = (none, [b]) ∧ w.heap[b]? = some (.map ents clock) ∧ row.lk = false ∧ row.n = 2 ∧ (∀ x ∈ row.xs, x.width = 2) ∧ RelL w G (flat row.xs) (entV ents) [] := by
  cases hv with
  | of h => cases h
  | mp hr' hb =>
    rw [hr] at hr'
    obtain rfl := Option.some.inj hr'
    have h := hi.row r row hr
    rw [hb] at h
    rcases h with ⟨_, h⟩ | h
    · cases h
    · obtain ⟨b', clock, ents, e1, h1, h2, h3, h4, h5⟩ := h.ex
      obtain rfl := List.head_eq_of_cons_eq e1
      exact ⟨_, clock, ents, rfl, hb, h1, h2, h3, h4, h5⟩
/-- What is looked up. -/
theorem VOK_lookup {o : Oper} {t kt et : TypeId} {x y : Operand} {ok : Bool} {kk : IntKind} {k : Int} {z0 : Value} {es : List A} (ho : o.op = .lookup t x y ok) (ht : P.underlying t = some (.map kt et)) (hk : P.underlying kt = some (.int kk))
    (hz : zeroT P et = some z0) (hzo : okV z0 = true) (hx : ev S x = .rmp es ∨ ∃ r row, ev S x = .mp r ∧ rowAt S.rows r = some row ∧ row.xs = es) (hy : ev S y = .sc (.int kk k)) (hm : mok kk es) : VOK P o S (lkA ok (mfind k es) (constA z0)) := by
  refine fun E G gs a w hi => ?_
  have e1 := ev_rel hi x rfl
  have e2 := ev_rel hi y rfl
  rw [hy] at e2
  have v2 := (sc_inv e2).1
  obtain ⟨b, clock, ents, v1, hb, hrel⟩ : ∃ b clock ents, a.eval x = .map (some b) ∧ w.heap[b]? = some (.map ents clock) ∧ RelL w G (flat es) (entV ents) [] := by
    rcases hx with hx | ⟨r, row, hx, hr, rfl⟩
    · rw [hx] at e1
      generalize a.eval x = v at e1
      cases e1 with
      | of h => cases h with | rmp hh hg hw hl => exact ⟨_, _, _, rfl, hh, hl⟩
    · rw [hx] at e1
      obtain ⟨b, clock, ents, q1, _, q2, _, _, _, q3⟩ := map_real hi hr e1
      exact ⟨b, clock, ents, q1, q2, q3⟩
  obtain ⟨r, q1, q2⟩ := findNow_ok (k := k) rfl es ents.toList 0 hm hrel
  refine ⟨lkV ok r z0, fun w' hw' => ?_, ?_⟩
  · have hb' := keep_at hw' hb
    have := run_lookup (w := w') ht hk hz hb' q1 ok
    simp [execOp, ho, v1, v2, this]
  · have hzr : TRel w G S.rows gs (constA z0) z0 [] := .of (rel_constA hzo)
    cases hf : mfind k es with
    | none =>
      rw [hf] at q2
      obtain rfl := q2
      cases ok with
      | true => exact .tup (cs := [z0, .bool false]) (.cons (F := []) hzr (.cons (F := []) (.of (.sc rfl)) .nil))
      | false => exact hzr
    | some z =>
      rw [hf] at q2
      obtain ⟨j, v, rfl, hv⟩ := q2
      cases ok with
      | true => exact .tup (cs := [v, .bool true]) (.cons (F := []) (.of hv) (.cons (F := []) (.of (.sc rfl)) .nil))
      | false => exact .of hv

theorem opOK_makeMap {o : Oper} {K : State → Prop} {t : TypeId} (ho : o.op = .makeMap t none) (hK : K ((S.addRow ⟨2, [], false⟩).put o.dst (.mp S.rows.length))) : opOK P o S K := by
  intro E a w next Q hs hn
  obtain ⟨hd, G, gs, hi⟩ := hs
  have hr : (execOp a.eval o).run P w = .ok (.value (.map (some w.heap.size))) (w.alloc (.map #[] 0)) := by
    simp [execOp, ho, Instr.makeMap]
  have hi' : Inv E G (gs.add S.rows.length none [w.heap.size]) (S.addRow ⟨2, [], false⟩) a.tmps (w.alloc (.map #[] 0)) := by
    refine hi.adopt rfl rfl rfl (by simp) (fun b hb => heap_alloc_lt w _ hb) (fun _ h => h) (fun _ h => .inl h) (fun b hb => by have := hi.glt b hb; simp; omega) (by simp) ?_ ?_ ?_
    · intro b hb
      have hb : b = w.heap.size := by simpa using hb
      subst hb
      exact ⟨fun h => by have := hi.glt _ h; omega, .inr hi.size⟩
    · intro r row' hr b hb hb'
      have hb' : b = w.heap.size := by simpa using hb'
      subst hb'
      have := hi.block_lt hr _ hb
      omega
    · intro rows' gs' _
      exact .inr ⟨w.heap.size, 0, #[], rfl, heap_alloc_self w _, rfl, rfl, by simp, by simpa [flat, entV] using RelL.nil⟩
  unfold Oper.wp
  rw [hr]
  refine hn _ _ _ hK ⟨by rw [put_defers]; exact hd, G, _, Inv.put (S := S.addRow _) hi' ?_ o.dst⟩
  refine .mp (row := ⟨2, [], false⟩) ?_ (by simp [Gh.add])
  show rowAt (S.rows ++ [some _]) S.rows.length = _
  rw [rowAt_push, if_pos rfl]

/-- What is told stands, where one map is turned. -/
theorem TRel.stepM {w w' : World} {G : Nat → Prop} {rows rows' : List (Option Row)} {gs : Gh} {r b0 : Nat} (hg : gs r = (none, [b0])) (hG : ∀ c, G c → w'.heap[c]? = w.heap[c]?)
    (hq : ∀ q row, q ≠ r → rowAt rows q = some row → rowAt rows' q = some row ∧ ∀ c, (gs q).1 = some c → w'.heap[c]? = w.heap[c]?) (hr : ∃ row', rowAt rows' r = some row') {x : A} {v : Value} {F : List Nat}
    (h : TRel w G rows gs x v F) (hF : ∀ c ∈ F, w'.heap[c]? = w.heap[c]?) : TRel w' G rows' gs x v F := by
  refine TRel.rec (motive_1 := fun x v F _ => (∀ b ∈ F, w'.heap[b]? = w.heap[b]?) → TRel w' G rows' gs x v F)
    (motive_2 := fun xs vs F _ => (∀ b ∈ F, w'.heap[b]? = w.heap[b]?) → TRelL w' G rows' gs xs vs F) ?_ ?_ ?_ ?_ ?_ ?_ ?_ ?_ ?_ ?_ ?_ ?_ h hF
  · intros; exact .un
  · intro x v F h hF; exact .of (h.move_ (fun b hb => ⟨hb, hG b hb⟩) hF)
  · intro q off len k cap b row cur e hr hob hl hh hs hm hc hk _
    have hne : q ≠ r := fun e => by rw [e, hg] at hob; cases hob
    obtain ⟨h1, h2⟩ := hq q row hne hr
    exact .vw h1 hob hl (by rw [h2 b hob]; exact hh) hs hm hc hk
  · intro q row hr hob hxs _
    have hne : q ≠ r := fun e => by rw [e, hg] at hob; cases hob
    exact .vwn (hq q row hne hr).1 hob hxs
  · intro q j o k b row hr hob hk _
    have hne : q ≠ r := fun e => by rw [e, hg] at hob; cases hob
    exact .pt (hq q row hne hr).1 hob hk
  · intro xs cs F hl ih hF; exact .agg (ih hF)
  · intro xs cs F hl ih hF; exact .tup (ih hF)
  · intro g caps cs F hl ih hF; exact .clo (ih hF)
  · intro q b row hr' hob _
    by_cases hne : q = r
    · subst hne
      obtain ⟨row', hr⟩ := hr
      exact .mp hr hob
    · exact .mp (hq q row hne hr').1 hob
  · intro x v F h ih hF; exact .al (ih hF)
  · intros; exact .nil
  · intro x v F xs vs Fs h hl ih ih' hF
    exact .cons (ih fun b hb => hF b (by simp [hb])) (ih' fun b hb => hF b (by simp [hb]))
theorem TRelL.stepM {w w' : World} {G : Nat → Prop} {rows rows' : List (Option Row)} {gs : Gh} {r b0 : Nat} (hg : gs r = (none, [b0])) (hG : ∀ c, G c → w'.heap[c]? = w.heap[c]?)
    (hq : ∀ q row, q ≠ r → rowAt rows q = some row → rowAt rows' q = some row ∧ ∀ c, (gs q).1 = some c → w'.heap[c]? = w.heap[c]?) (hr : ∃ row', rowAt rows' r = some row') :
    ∀ {xs : List A} {vs : List Value} {F : List Nat}, TRelL w G rows gs xs vs F → (∀ c ∈ F, w'.heap[c]? = w.heap[c]?) → TRelL w' G rows' gs xs vs F
  | _, _, _, .nil, _ => .nil
  | _, _, _, .cons h hl, hF => .cons (h.stepM hg hG hq hr fun b hb => hF b (by simp [hb])) (hl.stepM hg hG hq hr fun b hb => hF b (by simp [hb]))
/-- A map's block is turned. -/
theorem Inv.setMap {tmps : Array Value} (hi : Inv E G gs S tmps w) {r b clock clock' : Nat} {row row' : Row} {ents ents' : Array MapEntry} (hr : rowAt S.rows r = some row) (hg : gs r = (none, [b])) (hh : w.heap[b]? = some (.map ents clock))
    (hlk : row'.lk = false) (hn : row'.n = 2) (hw : ∀ x ∈ row'.xs, x.width = 2) (hl : RelL w G (flat row'.xs) (entV ents') []) :
    Inv E G gs (S.setRow r row') tmps { w with heap := w.heap.setIfInBounds b (.map ents' clock') } := by
  have hbl : b < w.heap.size := (Array.getElem?_eq_some_iff.1 hh).1
  have hball : b ∈ gs.all r := by simp [Gh.all, hg]
  obtain ⟨w', hw'⟩ : ∃ w' : World, w' = { w with heap := w.heap.setIfInBounds b (.map ents' clock') } := ⟨_, rfl⟩
  have hold : ∀ k, k ≠ b → w'.heap[k]? = w.heap[k]? := fun k hk => by rw [hw']; simp [Array.getElem?_setIfInBounds, Ne.symm hk]
  have hnew : w'.heap[b]? = some (.map ents' clock') := by rw [hw']; simp [Array.getElem?_setIfInBounds, hbl]
  have hsz : w'.heap.size = w.heap.size := by rw [hw']; simp
  have hG : ∀ c, G c → w'.heap[c]? = w.heap[c]? := fun c hc => hold c fun h => by subst h; exact (hi.own r row hr c hball).1 hc
  have hblk : ∀ q row0, q ≠ r → rowAt S.rows q = some row0 → ∀ c ∈ gs.all q, w'.heap[c]? = w.heap[c]? := fun q row0 hne h0 c hc => hold c fun h => by
    subst h; exact hi.dis q r row0 row h0 hr hne c hc hball
  have hrat : ∀ q, rowAt (S.setRow r row').rows q = if q = r then some row' else rowAt S.rows q := fun q => rowAt_setRow hr
  have hq : ∀ q row0, q ≠ r → rowAt S.rows q = some row0 → rowAt (S.setRow r row').rows q = some row0 ∧ ∀ c, (gs q).1 = some c → w'.heap[c]? = w.heap[c]? := fun q row0 hne h0 =>
    ⟨by rw [hrat, if_neg hne]; exact h0, fun c hc => hblk q row0 hne h0 c (by simp [Gh.all, hc])⟩
  have hself : ∃ row2, rowAt (S.setRow r row').rows r = some row2 := ⟨row', by rw [hrat, if_pos rfl]⟩
  have hcase : ∀ q row2, rowAt (S.setRow r row').rows q = some row2 → (q = r ∧ row2 = row') ∨ (q ≠ r ∧ rowAt S.rows q = some row2) := fun q row2 h => by
    rw [hrat] at h
    split at h
    · rename_i e; exact .inl ⟨e, (Option.some.inj h).symm⟩
    · rename_i e; exact .inr ⟨e, h⟩
  have hex : ∀ q row2, rowAt (S.setRow r row').rows q = some row2 → ∃ row0, rowAt S.rows q = some row0 := fun q row2 h => by
    rcases hcase q row2 h with ⟨rfl, _⟩ | ⟨_, h0⟩
    · exact ⟨_, hr⟩
    · exact ⟨_, h0⟩
  rw [← hw']
  refine ⟨fun c hc hf => ?_, by rw [hw']; exact hi.os, by rw [hw']; exact hi.tape, by rw [hw']; exact hi.output, by rw [hsz]; exact hi.size, hi.sz, hi.gsub, hi.gnew, hi.glt.move (fun b h => h) hG (fun c hc => by rw [hsz]; exact hi.glt c hc), fun q row2 hq2 => ?_, fun q row2 hq2 => ?_, fun q row2 hq2 => ?_, fun q1 q2 row1 row2 h1 h2 hne => ?_, fun i => (hi.tmp i).stepM hg hG hq hself (by simp)⟩
  · rw [hold c fun h => ?_]
    · exact hi.keep c hc hf
    · subst h
      rcases (hi.own r row hr c hball).2 with h | h
      · exact hf h
      · omega
  · rcases hcase q row2 hq2 with ⟨rfl, rfl⟩ | ⟨hne, h0⟩
    · rw [hg]
      exact .inr ⟨b, clock', ents', rfl, hnew, hlk, hn, hw, RelL.move_ (fun c hc => ⟨hc, hG c hc⟩) hl (by simp)⟩
    · have hrow := hi.row q row2 h0
      have hbk := hblk q row2 hne h0
      unfold Gh.all at hbk
      generalize (gs q).1 = ob at hrow hbk
      cases ob with
      | none => exact hrow.imp id fun hm => hm.step (fun c hc => ⟨hc, hG c hc⟩) fun c hc => hbk c (by simp [hc])
      | some c =>
        obtain ⟨cur, e, cap, h1, h2, h3, h4, h5, h6, h7⟩ := RowCells.ex hrow
        refine ⟨cur, e, cap, by rw [hbk c (by simp)]; exact h1, h2, h3, h4, h5, h6, ?_⟩
        have hF' : ∀ d ∈ (gs q).2, w'.heap[d]? = w.heap[d]? := fun d hd => hbk d (by simp [hd])
        unfold CellsRel at *
        split
        · rename_i hl; rw [if_pos hl] at h7; exact h7.stepM hg hG hq hself hF'
        · rename_i hl; rw [if_neg hl] at h7; exact RelL.move_ (fun c hc => ⟨hc, hG c hc⟩) h7 hF'
  · obtain ⟨row0, h0⟩ := hex q row2 hq2
    exact hi.nod q row0 h0
  · obtain ⟨row0, h0⟩ := hex q row2 hq2
    exact hi.own q row0 h0
  · obtain ⟨row0, h0⟩ := hex q1 row1 h1
    obtain ⟨row0', h0'⟩ := hex q2 row2 h2
    exact hi.dis q1 q2 row0 row0' h0 h0' hne

/-- Something is laid into a map at a number at which nothing stands. -/
theorem opOK_mapUpdate {o : Oper} {K : State → Prop} {t kt et : TypeId} {m x y : Operand} {kk : IntKind} {k : Int} {r : Nat} {row : Row} (ho : o.op = .mapUpdate t m x y ∨ o.op = .insert t m x y) (ht : P.underlying t = some (.map kt et)) (hk : P.underlying kt = some (.int kk))
    (hm : ev S m = .mp r) (hr : rowAt S.rows r = some row) (hx : ev S x = .sc (.int kk k)) (hw : (ev S y).cells = [ev S y]) (hd : isData (ev S y) = true) (hno : noOwn (ev S y) = true) (hok : okCell (ev S y) = true) (hmk : mok kk row.xs) (hf : mfind k row.xs = none)
    (hK : K ((S.setRow r { row with xs := row.xs ++ [.agg [.sc (.int kk k), ev S y]] }).put o.dst .un)) : opOK P o S K := by
  intro E a w next Q hs hn
  obtain ⟨hdf, G, gs, hi⟩ := hs
  have e1 := ev_rel hi m rfl
  rw [hm] at e1
  obtain ⟨b, clock, ents, v1, hg, hh, hlk, hn2, hw2, hl⟩ := map_real hi hr e1
  have e2 := ev_rel hi x rfl
  rw [hx] at e2
  obtain ⟨v2, hv2⟩ := sc_inv e2
  have e3 := (TRelL.cons (F := []) (Fs := []) (ev_rel hi y rfl) .nil).data (by simpa using hd)
  have e3' : Rel w G (ev S y) (a.eval y) [] := by
    generalize hF : ([] ++ [] : List Nat) = F at e3
    cases e3 with
    | cons h1 h2 =>
      rename_i F1 F2
      obtain ⟨rfl, rfl⟩ : F1 = [] ∧ F2 = [] := by simpa using hF.symm
      exact h1
  obtain ⟨q, q1, q2⟩ := findNow_ok (k := k) rfl row.xs ents.toList 0 hmk hl
  rw [hf] at q2
  obtain rfl := q2
  have hrun : (execOp a.eval o).run P w = .ok .skip { w with heap := w.heap.setIfInBounds b (.map (ents.push { key := .int kk k, val := a.eval y, born := clock }) (clock + 1)) } := by
    have hb' : b < w.heap.size := (Array.getElem?_eq_some_iff.1 hh).1
    rcases ho with ho | ho <;>
      simp [execOp, ho, Instr.mapUpdate, v1, v2, run_underlying ht, run_getMap hh, run_checkKey hk, run_findKey hk q1, setObj, Sem.run, hh]
  have hinv := hi.setMap (clock' := clock + 1) (row' := { row with xs := row.xs ++ [.agg [.sc (.int kk k), ev S y]] }) (ents' := ents.push { key := .int kk k, val := a.eval y, born := clock }) hr hg hh hlk hn2 (fun z hz => by
      rcases List.mem_append.1 hz with hz | hz
      · exact hw2 z hz
      · obtain rfl : z = .agg [.sc (.int kk k), ev S y] := by simpa using hz
        rfl) (by
      have h1 : flat (row.xs ++ [A.agg [.sc (.int kk k), ev S y]]) = flat row.xs ++ [.sc (.int kk k), ev S y] := by simp [flat, A.cells]
      have h2 : entV (ents.push { key := .int kk k, val := a.eval y, born := clock }) = entV ents ++ [.int kk k, a.eval y] := by simp [entV]
      show RelL w G (flat (row.xs ++ [A.agg [.sc (.int kk k), ev S y]])) _ []
      rw [h1, h2]
      have := hl.append (RelL.cons (F := []) (Rel.sc (w := w) (G := G) (v := .int kk k) rfl) (RelL.cons (F := []) e3' .nil))
      simpa using this)
  unfold Oper.wp
  rw [hrun]
  exact hn _ _ _ hK ⟨by rw [put_defers]; exact hdf, G, _, Inv.put (S := S.setRow r _) hinv .un o.dst⟩
theorem HardX.sbs {o : Oper} {S' : State} {K : State → Prop} (hs : Sbs S S') (h : HardX P o S' K) : HardX P o S K := ⟨fun E a w next Q h1 h2 => h.h E a w next Q (hs P E a w h1) h2⟩
/-- A look into an own map. -/
theorem hard_look {o : Oper} {K : State → Prop} {t kt et : TypeId} {x y : Operand} {ok : Bool} {kk : IntKind} {k : Int} {z0 : Value} {r : Nat} {row : Row} {z : A} (ho : o.op = .lookup t x y ok) (ht : P.underlying t = some (.map kt et)) (hk : P.underlying kt = some (.int kk))
    (hz : zeroT P et = some z0) (hzo : okV z0 = true) (hx : ev S x = .mp r) (hr : rowAt S.rows r = some row) (hy : ev S y = .sc (.int kk k)) (hm : mok kk row.xs) (hf : lkA ok (mfind k row.xs) (constA z0) = z) (hK : K (S.put o.dst z)) : HardX P o S K :=
  ⟨opOK_of (VOK_lookup ho ht hk hz hzo (.inr ⟨r, row, hx, hr, rfl⟩) hy hm) (by rw [hf]; exact hK)⟩
/-- A look into a map that is only read. -/
theorem hard_lookR {o : Oper} {K : State → Prop} {t kt et : TypeId} {x y : Operand} {ok : Bool} {kk : IntKind} {k : Int} {z0 : Value} {es : List A} {z : A} (ho : o.op = .lookup t x y ok) (ht : P.underlying t = some (.map kt et)) (hk : P.underlying kt = some (.int kk))
    (hz : zeroT P et = some z0) (hzo : okV z0 = true) (hx : ev S x = .rmp es) (hy : ev S y = .sc (.int kk k)) (hm : mok kk es) (hf : lkA ok (mfind k es) (constA z0) = z) (hK : K (S.put o.dst z)) : HardX P o S K :=
  ⟨opOK_of (VOK_lookup ho ht hk hz hzo (.inl hx) hy hm) (by rw [hf]; exact hK)⟩
/-- Something is laid into a map at a number at which nothing stands. -/
theorem hard_upd {o : Oper} {K : State → Prop} {t kt et : TypeId} {m x y : Operand} {kk : IntKind} {k : Int} {r : Nat} {row : Row} {z : A} (ho : o.op = .mapUpdate t m x y ∨ o.op = .insert t m x y) (ht : P.underlying t = some (.map kt et)) (hk : P.underlying kt = some (.int kk))
    (hm : ev S m = .mp r) (hr : rowAt S.rows r = some row) (hx : ev S x = .sc (.int kk k)) (hy : ev S y = z) (hw : z.cells = [z]) (hd : isData z = true) (hno : noOwn z = true) (hok : okCell z = true) (hmk : mok kk row.xs) (hf : mfind k row.xs = none)
    (hK : ∀ zs, zs = row.xs ++ [.agg [.sc (.int kk k), z]] → K ((S.setRow r ⟨row.n, zs, row.lk⟩).put o.dst .un)) : HardX P o S K := by
  subst hy
  exact ⟨opOK_mapUpdate ho ht hk hm hr hx hw hd hno hok hmk hf (hK _ rfl)⟩
theorem mfind_app {kk : IntKind} {k : Int} {z : A} : ∀ {xs : List A}, mok kk xs → mfind k xs = none → mfind k (xs ++ [.agg [.sc (.int kk k), z]]) = some z
  | [], _, _ => by simp [mfind]
  | x :: xs, hm, h => by
    obtain ⟨⟨j, y, rfl, _⟩, hm⟩ := hm
    simp only [mfind] at h
    split at h
    · cases h
    · rename_i hne
      have := mfind_app (z := z) hm h
      simp only [List.cons_append, mfind, if_neg hne]
      exact this
end
end Go.Fw

/- Regions that draw their order, taken by a plan: operations that only read, calls, orders, guards. Plain theorems, no condition. -/
set_option linter.unusedVariables false
set_option linter.unusedSimpArgs false
namespace Go.Fw
/-- A plan: q: an operation that only reads; s: the one that must come; two: one of two. -/
inductive Pln where
  | fin
  | q (n : Nat) (p : Pln)
  | s (n : Nat) (p : Pln)
  | two (n : Nat) (p : Pln) (m : Nat) (r : Pln)
def Pln.depth : Pln → Nat
  | .fin => 0
  | .q _ p => p.depth + 1
  | .s _ p => p.depth + 1
  | .two _ p _ _ => p.depth + 1
def Pln.qs : List Nat → Pln → Pln
  | [], p => p
  | n :: ns, p => .q n (Pln.qs ns p)
section
variable {P : Program} {T : Nat → Option TI} {S : State} {Ω : Opq}
def planB (ops : Array Oper) : Pln → Array Bool → Bool
  | .fin, l => (Region.ready .any ops l).isEmpty
  | .q n p, l => (Region.ready .any ops l).contains n && Region.free .any ops l n && planB ops p (l.setIfInBounds n true)
  | .s n p, l => decide (Region.ready .any ops l = [n]) && planB ops p (l.setIfInBounds n true)
  | .two n p m r, l => decide (Region.ready .any ops l = [n, m]) && decide (p.depth = r.depth) && planB ops p (l.setIfInBounds n true) && planB ops r (l.setIfInBounds m true)
def planOK (ops : Array Oper) (p : Pln) : Bool := Region.noSelect ops && decide (p.depth = ops.size) && planB ops p (Array.replicate ops.size false)
def vPOp (Ω : Opq) (P : Program) (T : Nat → Option TI) (o : Oper) (S : State) (k : A → Prop) : Prop :=
  match o.op with
  | .move x => k (ev S x)
  | .assign x => k (ev S x)
  | .pick c x y => vPick Ω (ev S c) (ev S x) (ev S y) k
  | .unOp op _ x => vUn Ω op (ev S x) k
  | .binOp op t x y _ => vBinA Ω P T op t (ev S x) (ev S y) k
  | .load t x => vLoad T t S (ev S x) k
  | .fieldAddr t x i => vFieldAddr T t i (ev S x) k
  | .field t x i => vField T t i (ev S x) k
  | .indexAddr t x y => vIndexAddr Ω T t S (ev S x) (ev S y) k
  | .index t x y => vIndex Ω T t (ev S x) (ev S y) k
  | .extract x i => vExtract (ev S x) i k
  | .nilCheck x => vNilCheck (ev S x) k
  | .build t parts => vBuild T t (parts.toList.map fun p => (p.1, ev S p.2)) k
  | .slice t x lo hi none => vSlice Ω T t S (ev S x) (lo.map (ev S)) (hi.map (ev S)) k
  | .convert src dst x => vConv Ω T src dst S (ev S x) k
  | .makeFunc f first caps => vMakeFn f (first.toList.map (ev S)) (caps.toList.map (ev S)) k
  | .call c => (match c.callee, c.args.toList, c.argTypes.toList with
    | .builtin .len, [x], [t] => vLen Ω T t (ev S x) k
    | _, _, _ => False)
  | _ => False
/-- Under a guard: done, or passed over. -/
def vGd (ops : List Oper) (o : Oper) (S : State) (X Y : State → Prop) : Prop :=
  match o.guard with
  | none => X S
  | some (j, b) =>
    match guardAt ops j with
    | none => False
    | some i => if i < S.N then (match lk S.t i with
      | .sc (.bool p) => brB p
          (fun _ => match b with
            | true => X (S.put (some i) (.sc (.bool true)))
            | false => Y (S.put (some i) (.sc (.bool true))))
          (fun _ => match b with
            | true => Y (S.put (some i) (.sc (.bool false)))
            | false => X (S.put (some i) (.sc (.bool false))))
      | .tup [] => Y S
      | _ => False) else False
/-- What a guard says. -/
theorem vGd_ok {ops : List Oper} {o : Oper} {X Y : State → Prop} (h : vGd ops o S X Y) {E : Env P} {G : Nat → Prop} {gs : Gh} {a : Act} {w : World} (hi : Inv E G gs S a.tmps w) :
    ∃ S', S'.rows = S.rows ∧ Inv E G gs S' a.tmps w ∧ ((Region.wanted o (yielded ops.toArray a.tmps) = true ∧ X S') ∨ (Region.wanted o (yielded ops.toArray a.tmps) = false ∧ Y S')) := by
  unfold vGd at h
  split at h
  · rename_i hg; exact ⟨S, rfl, hi, .inl ⟨by simp [Region.wanted, hg], h⟩⟩
  · rename_i j b hg
    split at h <;> try exact h.elim
    rename_i i hat
    split at h <;> try exact h.elim
    rename_i hN
    have hsz : i < a.tmps.size := by rw [hi.sz]; exact hN
    have h1 : ((ops.toArray[j]?).bind (·.dst)) = some i := by simpa [guardAt] using hat
    split at h <;> try exact h.elim
    case h_2 hp =>
      have ht := hi.tmp i
      rw [hp, hi.vat_tmp hN] at ht
      obtain ⟨cs, hv, hcs⟩ := tup_inv ht
      have hcs0 : cs = #[] := Array.eq_empty_of_size_eq_zero (by simpa using hcs.length)
      subst hcs0
      have hy : yielded ops.toArray a.tmps j = none := by
        unfold yielded
        rw [h1]
        rw [Array.getD_eq_getD_getElem?, Array.getElem?_eq_getElem hsz] at hv
        simp only [Option.getD_some] at hv
        simp [Array.getElem?_eq_getElem hsz, hv]
      exact ⟨S, rfl, hi, .inr ⟨by simp [Region.wanted, hg, hy], h⟩⟩
    rename_i p hp
    have hy : ∀ q, p = q → yielded ops.toArray a.tmps j = some q ∧ Inv E G gs (S.put (some i) (.sc (.bool q))) a.tmps w := fun q hq => by
      subst hq
      have ht := hi.tmp i
      have ht' := ht
      rw [hp, hi.vat_tmp hN] at ht
      have hv := (sc_inv ht).1
      refine ⟨?_, hi.retell (by rw [hp] at ht'; exact ht') hN⟩
      unfold yielded
      rw [h1]
      rw [Array.getD_eq_getD_getElem?, Array.getElem?_eq_getElem hsz] at hv
      simp only [Option.getD_some] at hv
      simp [Array.getElem?_eq_getElem hsz, hv]
    obtain ⟨ht, hf⟩ := brB_ok h
    cases p with
    | true =>
      obtain ⟨hy1, hy2⟩ := hy true rfl
      have := ht rfl
      cases b with
      | true => exact ⟨_, put_rows _ _ _, hy2, .inl ⟨by simp [Region.wanted, hg, hy1], this⟩⟩
      | false => exact ⟨_, put_rows _ _ _, hy2, .inr ⟨by simp [Region.wanted, hg, hy1], this⟩⟩
    | false =>
      obtain ⟨hy1, hy2⟩ := hy false rfl
      have := hf rfl
      cases b with
      | true => exact ⟨_, put_rows _ _ _, hy2, .inr ⟨by simp [Region.wanted, hg, hy1], this⟩⟩
      | false => exact ⟨_, put_rows _ _ _, hy2, .inl ⟨by simp [Region.wanted, hg, hy1], this⟩⟩
theorem wpAnyH_mono {ops : Array Oper} {Q : Exit → Act → World → Prop} {Sc Sc' : World → Prop} (h : ∀ w, Sc w → Sc' w) : ∀ (n : Nat) (l : Array Bool) (a : Act) (w : World), wpAnyH P .any ops Q Sc n l a w → wpAnyH P .any ops Q Sc' n l a w
  | 0, _, _, _, hh => hh
  | n + 1, _, _, _, hh => ⟨hh.1, fun i hi => wpOp_mono (fun a' w' h' => ⟨h _ h'.1, wpAnyH_mono h n _ a' w' h'.2⟩) (hh.2 i hi)⟩
theorem envAt_put (E : Env P) (G : Nat → Prop) (gs : Gh) (S : State) (w : World) (d : Option Nat) (z : A) : envAt E G gs (S.put d z) w = envAt E G gs S w := by
  unfold envAt
  rw [put_rows]
theorem plan_step (hT : TabOK P T) {ops : List Oper} {Q : Exit → Act → World → Prop} {E : Env P} {n : Nat} {o : Oper} {mv : Option Nat} {X : Oper → State → Prop} {Y : State → Prop} (ho : ops[n]? = some o) {S : State} {a : Act} {w : World}
    (h : vGd ops o S (fun S => vOp std P T mv o S fun S' => X o S') Y) (hs : SInv E S a w) {K' : Act → World → Prop} (hX : ∀ S' a' w', X o S' → SInv E S' a' w' → K' a' w') (hY : ∀ S' , Y S' → SInv E S' a w → K' (a.put o.dst undef) w) : wpOp P ops.toArray Q n K' a w := by
  obtain ⟨hd, G, gs, hi⟩ := hs
  obtain ⟨S', hrows, hi', hV⟩ := vGd_ok h hi
  unfold wpOp
  rw [show ops.toArray[n]? = some o by simpa using ho]
  simp only
  rcases hV with ⟨hw, hv⟩ | ⟨hw, hv⟩
  · rw [if_pos hw]
    exact .inl (vOp_ok hT hv E a w _ _ ⟨hd, G, gs, hi'⟩ fun S' a' w' hK hs' => hX S' a' w' hK hs')
  · rw [if_neg (by simp [hw])]
    exact hY S' hv ⟨hd, G, gs, hi'⟩
theorem skip_put {E : Env P} {S : State} {a : Act} {w : World} (hs : SInv E S a w) (d : Option Nat) : SInv E (S.put d (.tup [])) (a.put d undef) w := by
  obtain ⟨hd, G, gs, hi⟩ := hs
  exact ⟨by rw [put_defers]; exact hd, G, gs, hi.put (tup_undef _ _ _) d⟩
end
end Go.Fw

/- Regions that draw their order, taken by a plan, rows or none: operations that only read what may be read by all, calls, orders, guards. Plain theorems, no condition. -/
set_option linter.unusedVariables false
set_option linter.unusedSimpArgs false
namespace Go.Fw
section
variable {P : Program} {T : Nat → Option TI} {S : State} {Ω : Opq}
theorem VOR_extract {o : Oper} {rs : List Nat} {x : Operand} {i : Nat} {xs : List A} {z : A} (ho : o.op = .extract x i) (hx : okO x = true) (he : ev S x = .tup xs) (hz : xs[i]? = some z) : VOR P o S rs z := by
  refine fun E G gs a w hi => ?_
  have h1 := ev_rel hi x hx
  rw [he] at h1
  obtain ⟨cs, hv, hr⟩ := tup_inv h1
  obtain ⟨v, hv1, hv2⟩ := hr.get i z hz
  have hv1' : cs[i]? = some v := by simpa using hv1
  exact ⟨v, fun w' hw' => by simp [execOp, ho, hv, Instr.extract, hv1'], hv2⟩
theorem vExtractR_ok {o : Oper} {rs : List Nat} {k : A → Prop} {x : Operand} {i : Nat} (ho : o.op = .extract x i) (h : vExtract (ev S x) i k) : ∃ z, VOR P o S rs z ∧ k z := by
  have hk : okO x = true := by cases x <;> rfl
  unfold vExtract at h
  split at h <;> try exact h.elim
  rename_i xs he
  split at h <;> try exact h.elim
  rename_i z hz
  exact ⟨z, VOR_extract ho hk he hz, h⟩
theorem VOR_slice_str {o : Oper} {rs : List Nat} {t : TypeId} {x : Operand} {lo hi : Option Operand} {s : ByteArray} {l h : Nat} (ho : o.op = .slice t x lo hi none) (hx : okO x = true) (hlo : okOpt lo = true) (hhi : okOpt hi = true)
    (ht : isStrT P t = true) (he : ev S x = .sc (.string s)) (h1 : bnd (lo.map (ev S)) 0 = some (l : Int)) (h2 : bnd (hi.map (ev S)) (bs s).length = some (h : Int)) (hlh : l ≤ h) (hhl : h ≤ (bs s).length)
    : VOR P o S rs (.sc (.string (mkS (((bs s).take h).drop l)))) := by
  refine fun E G gs a w hinv => ⟨_, ?_, .of (.sc rfl)⟩
  have e1 := ev_rel hinv x hx
  rw [he] at e1
  have v1 := (sc_inv e1).1
  have hu : P.underlying t = some .string := by
    unfold isStrT at ht
    split at ht
    · assumption
    · simp at ht
  obtain ⟨a1, a2⟩ := opt_rel hinv lo hlo
  obtain ⟨b1, b2⟩ := opt_rel hinv hi hhi
  rw [bs_length] at h2 hhl
  have hb := slice_bounds (P := P) (isS := false) (lo.map a.eval) (hi.map a.eval) _ _ h1 h2 a1 a2 b1 b2 hlh hhl (Nat.le_refl _)
  have e : s.extract l h = mkS (((bs s).take h).drop l) := by
    apply ByteArray.ext
    apply Array.ext'
    simp [mkS, bs, ByteArray.data_extract, List.extract_eq_take_drop, List.drop_take]
  intro w' hw'
  simp [execOp, ho, v1, Instr.sliceAt, run_underlying hu, Instr.slice, hb, e]
def vEOp (Ω : Opq) (T : Nat → Option TI) (o : Oper) (S : State) (k : A → Prop) : Prop :=
  match o.op with
  | .extract x i => vExtract (ev S x) i k
  | .slice t x lo hi none => (match T t, ev S x with
    | some ti, .sc (.string s) => if ti.str then vLo Ω (lo.map (ev S)) 0 fun c1 l => vLo Ω (hi.map (ev S)) (Ω.lenS (bs s)) fun c2 h => Ob (fun _ => c1 () ∧ c2 () ∧ l ≤ h ∧ h ≤ (bs s).length) ∧ k (.sc (.string (mkS (Ω.segS l h (bs s))))) else False
    | _, _ => vROp Ω T [] o S k)
  | _ => vROp Ω T [] o S k
theorem vEOp_ok (hT : TabOK P T) {o : Oper} {k : A → Prop} (h : vEOp std T o S k) : ∃ z, VOR P o S [] z ∧ k z := by
  have ok : ∀ x : Option Operand, okOpt x = true := fun x => by cases x <;> rfl
  unfold vEOp at h
  split at h
  · rename_i ho; exact vExtractR_ok ho h
  · rename_i t x lo hi ho
    split at h
    · rename_i ti s hi' hx
      have hti := tiOf_ok (hT _ _ hi')
      split at h <;> try exact h.elim
      rename_i hs
      obtain ⟨c1, l, h, g1⟩ := vLo_ok h
      obtain ⟨c2, u, h, g2⟩ := vLo_ok h
      obtain ⟨h0, h⟩ := h
      obtain ⟨h1, h2, h3, h4⟩ := h0.h
      exact ⟨_, VOR_slice_str ho (by cases x <;> rfl) (ok _) (ok _) (by rw [hti.str]; exact hs) hx (g1 h1) (g2 h2) h3 h4, h⟩
    · exact vROp_ok hT h
  · exact vROp_ok hT h
/-- Who was just made: a load in between leaves it. -/
def madeK (mv : Option Nat) (o : Oper) : Option Nat :=
  match o.op with
  | .load _ _ => mv
  | _ => madeBy o
def vPl (Ω : Opq) (P : Program) (T : Nat → Option TI) (ops : List Oper) : Pln → Option Nat → State → (State → Prop) → Prop
  | .fin, _, S, K => K S
  | .q n p, mv, S, K => (match ops[n]? with
    | some o => vGd ops o S (fun S => vEOp Ω T o S fun z => vPl Ω P T ops p mv (S.put o.dst z) K) (fun S => vPl Ω P T ops p mv (S.put o.dst (.tup [])) K)
    | none => False)
  | .s n p, mv, S, K => (match ops[n]? with
    | some o => vGd ops o S (fun S => vOp Ω P T mv o S fun S' => vPl Ω P T ops p (madeK mv o) S' K) (fun S => vPl Ω P T ops p none (S.put o.dst (.tup [])) K)
    | none => False)
  | .two n p m r, mv, S, K => (match ops[n]?, ops[m]? with
    | some o, some o' => vGd ops o S (fun S => vOp Ω P T mv o S fun S' => vPl Ω P T ops p (madeK mv o) S' K) (fun S => vPl Ω P T ops p none (S.put o.dst (.tup [])) K) ∧
        vGd ops o' S (fun S => vOp Ω P T mv o' S fun S' => vPl Ω P T ops r (madeK mv o') S' K) (fun S => vPl Ω P T ops r none (S.put o'.dst (.tup [])) K)
    | _, _ => False)
theorem pl_ok (hT : TabOK P T) {ops : List Oper} {E0 : Env P} (hsel : Region.noSelect ops.toArray = true) {K : State → Prop} : ∀ (p : Pln) (l : Array Bool) (mv : Option Nat) (S : State) (a : Act) (w : World) (E : Env P) (Sc : World → Prop), planB ops.toArray p l = true →
    vPl std P T ops p mv S K → SInv E S a w → (∀ S a w, SInv E S a w → SInv E0 S a w) → (∀ S a w, SInv E S a w → Sc w) →
    wpAnyH P .any ops.toArray (fun e a' w' => e = .normal ∧ ∃ S', SInv E0 S' a' w' ∧ K S') Sc p.depth l a w
  | .fin, l, mv, S, a, w, E, Sc, hB, h, hs, hb, hSc => ⟨by simpa [planB] using hB, rfl, S, hb _ _ _ hs, h⟩
  | .q n p, l, mv, S, a, w, E, Sc, hB, h, hs, hb, hSc => by
    simp only [planB, Bool.and_eq_true] at hB
    unfold vPl at h
    split at h <;> try exact h.elim
    rename_i o ho
    obtain ⟨hd, G, gs, hi⟩ := hs
    obtain ⟨S', hrows, hi', hX⟩ := vGd_ok h hi
    have hag : ∀ S2 a2 w2, SInv (envAt E G gs S' w) S2 a2 w2 → Agree G w w2 := fun S2 a2 w2 ⟨_, G2, gs2, hi2⟩ => hi'.agree hi2
    have hback : ∀ S2 a2 w2, SInv (envAt E G gs S' w) S2 a2 w2 → SInv E S2 a2 w2 := fun S2 a2 w2 ⟨h1, G2, gs2, hi2⟩ => ⟨h1, G2, gs2, hi'.back hi2⟩
    refine wpAnyH_mono (Sc := fun w' => Sc w' ∧ Agree G w w') (fun _ h => h.1) _ _ _ _ ?_
    have hself : Sc w ∧ Agree G w w := ⟨hSc _ _ _ ⟨hd, G, gs, hi⟩, fun _ _ => rfl⟩
    have ho' : ops.toArray[n]? = some o := by simpa using ho
    rcases hX with ⟨hw, hv⟩ | ⟨hw, hv⟩
    · obtain ⟨z, h1, h2⟩ := vEOp_ok hT hv
      obtain ⟨v, h3, h4⟩ := h1 E G gs a w hi'
      refine wpAnyH_take (oi := o) (v := v) ho' hsel hB.1.2 hB.1.1 (fun c a w h => absurd h.1 (by simp)) (.inl ⟨hw, fun w' hw' => h3 w' fun b hb => hw'.2 b (hb.elim id fun ⟨r, hr, _⟩ => by cases hr)⟩) hself ?_
      exact pl_ok hT hsel p _ mv _ _ w (envAt E G gs S' w) _ hB.2 h2 ⟨by rw [put_defers]; exact hd, G, gs, envAt_put E G gs S' w o.dst z ▸ (hi'.put h4 o.dst).at⟩ (fun S a w h => hb _ _ _ (hback _ _ _ h)) (fun S a w h => ⟨hSc _ _ _ (hback _ _ _ h), hag _ _ _ h⟩)
    · refine wpAnyH_take (oi := o) (v := undef) ho' hsel hB.1.2 hB.1.1 (fun c a w h => absurd h.1 (by simp)) (.inr ⟨hw, rfl⟩) hself ?_
      exact pl_ok hT hsel p _ mv _ _ w (envAt E G gs S' w) _ hB.2 hv ⟨by rw [put_defers]; exact hd, G, gs, envAt_put E G gs S' w o.dst (.tup []) ▸ (hi'.put (tup_undef _ _ _) o.dst).at⟩ (fun S a w h => hb _ _ _ (hback _ _ _ h)) (fun S a w h => ⟨hSc _ _ _ (hback _ _ _ h), hag _ _ _ h⟩)
  | .s n p, l, mv, S, a, w, E, Sc, hB, h, hs, hb, hSc => by
    simp only [planB, Bool.and_eq_true, decide_eq_true_eq] at hB
    unfold vPl at h
    split at h <;> try exact h.elim
    rename_i o ho
    refine wpAnyH_all hB.1 (by simp) fun i hi => ?_
    obtain rfl : i = n := by simpa using hi
    exact plan_step hT (X := fun o S' => vPl std P T ops p (madeK mv o) S' K) ho h hs (fun S' a' w' hK hs' => ⟨hSc _ _ _ hs', pl_ok hT hsel p _ _ S' a' w' E Sc hB.2 hK hs' hb hSc⟩)
      fun S' hK hs' => ⟨hSc _ _ _ hs', pl_ok hT hsel p _ _ _ _ w E Sc hB.2 hK (skip_put hs' o.dst) hb hSc⟩
  | .two n p m r, l, mv, S, a, w, E, Sc, hB, h, hs, hb, hSc => by
    simp only [planB, Bool.and_eq_true, decide_eq_true_eq] at hB
    unfold vPl at h
    split at h <;> try exact h.elim
    rename_i o o' ho ho'
    refine wpAnyH_all hB.1.1.1 (by simp) fun i hi => ?_
    have hin : i = n ∨ i = m := by simpa using hi
    rcases hin with rfl | rfl
    · exact plan_step hT (X := fun o S' => vPl std P T ops p (madeK mv o) S' K) ho h.1 hs (fun S' a' w' hK hs' => ⟨hSc _ _ _ hs', pl_ok hT hsel p _ _ S' a' w' E Sc hB.1.2 hK hs' hb hSc⟩)
        fun S' hK hs' => ⟨hSc _ _ _ hs', pl_ok hT hsel p _ _ _ _ w E Sc hB.1.2 hK (skip_put hs' o.dst) hb hSc⟩
    · have := plan_step (Q := fun e a' w' => e = .normal ∧ ∃ S', SInv E0 S' a' w' ∧ K S') (K' := fun a' w' => Sc w' ∧ wpAnyH P .any ops.toArray (fun e a' w' => e = .normal ∧ ∃ S', SInv E0 S' a' w' ∧ K S') Sc r.depth (l.setIfInBounds i true) a' w') hT (X := fun o S' => vPl std P T ops r (madeK mv o) S' K) ho' h.2 hs (fun S' a' w' hK hs' => ⟨hSc _ _ _ hs', pl_ok hT hsel r _ _ S' a' w' E Sc hB.2 hK hs' hb hSc⟩)
        fun S' hK hs' => ⟨hSc _ _ _ hs', pl_ok hT hsel r _ _ _ _ w E Sc hB.2 hK (skip_put hs' o'.dst) hb hSc⟩
      rw [← hB.1.1.2] at this
      exact this
/-- A region that draws its order, by a plan; there may be rows. -/
theorem VC_pl (hT : TabOK P T) (hΩ : Ω = std) (hm : P.follows .mixedOrders = true) (p : Pln) {id : Nat} {ops : Array Oper} {K : Exit → State → Prop} (hB : planOK ops p = true)
    (h : vPl Ω P T ops.toList p none S (K .normal)) : VC P (.region id ops true) S K := by
  subst hΩ
  intro E a w hs
  have hops : ops = ops.toList.toArray := by simp
  rw [hops] at hB ⊢
  obtain ⟨hd, G, gs, hi⟩ := hs
  simp only [planOK, Bool.and_eq_true, decide_eq_true_eq] at hB
  obtain ⟨⟨hsel, hsz⟩, hB⟩ := hB
  have hw1 : Go.RowKit.Below w.heap.size w { w with drawn := w.drawn + 1 } := ⟨rfl, rfl, rfl, Nat.le_refl _, fun _ _ => rfl⟩
  have hi1 : Inv E G gs S a.tmps { w with drawn := w.drawn + 1 } := hi.below hw1 (fun _ h => h) (fun _ h => .inl h) (fun b h => Nat.lt_of_lt_of_le (hi.glt b h) hw1.size)
  have hwp : (Code.region id ops.toList.toArray true).wp P (fun e a' w' => e = .normal ∧ ∃ S', SInv E S' a' w' ∧ K .normal S') a w := by
    refine wp_region_held (S := fun _ => True) hm ?_
    have := pl_ok (E0 := E) hT hsel p _ none S a _ E (fun _ => True) hB h ⟨hd, G, gs, hi1⟩ (fun _ _ _ h => h) (fun _ _ _ _ => trivial)
    rw [hsz] at this
    exact this
  refine wp_mono hwp ?_
  rintro e a' w' ⟨rfl, S', hs', hK'⟩
  exact ⟨S', hs', hK'⟩
end
end Go.Fw

/- The program's table of ways, walked. Plain theorems. -/
set_option linter.unusedVariables false
set_option linter.unusedSimpArgs false
namespace Go.Proofs.YtomfmdfamlmfiaaGreat
open Go Go.Fw
set_option maxRecDepth 100000
/-- An entry of the table. -/
def entA (p : Int × List Int) : A := .agg [i64 p.1, .sl false 1 (p.2.map i64)]
theorem mok_ent : ∀ es : List (Int × List Int), mok .i64 (es.map entA)
  | [] => trivial
  | p :: es => ⟨⟨p.1, .sl false 1 (p.2.map i64), rfl, rfl⟩, mok_ent es⟩
theorem mfind_ent : ∀ (es : List (Int × List Int)) (k : Int), mfind k (es.map entA) = (getK es k).map fun v => .sl false 1 (v.map i64)
  | [], k => rfl
  | p :: es, k => by
    have ih := mfind_ent es k
    show (if k = p.1 then some (A.sl false 1 (p.2.map i64)) else mfind k (es.map entA)) = Option.map _ (if k = p.1 then some p.2 else getK es k)
    by_cases h : k = p.1
    · rw [if_pos h, if_pos h]; rfl
    · rw [if_neg h, if_neg h]; exact ih
theorem tabW_const {asks : Int → Bool} {lea : Int → Int → Bool} {set : List Int} {n : Nat} (h : (tabW asks lea set n).2 = []) : ∀ d, tabW asks lea set (n + d) = tabW asks lea set n
  | 0 => rfl
  | d + 1 => by
    have ih := tabW_const h d
    show (tabW asks lea set (n + d)).2.foldl (rowW lea set) ((tabW asks lea set (n + d)).1, []) = _
    rw [ih, h]
    show ((tabW asks lea set n).1, []) = _
    rw [← h]
theorem len_sub {α : Type} [DecidableEq α] : ∀ {l m : List α}, l.Nodup → (∀ x ∈ l, x ∈ m) → l.length ≤ m.length
  | [], m, _, _ => Nat.zero_le _
  | x :: l, m, hn, h => by
    rw [List.nodup_cons] at hn
    have h1 := h x (by simp)
    have ih := len_sub (m := m.erase x) hn.2 fun y hy => (List.mem_erase_of_ne (fun e => by subst e; exact hn.1 hy)).2 (h y (.tail _ hy))
    rw [List.length_erase_of_mem h1] at ih
    have := List.length_pos_of_mem h1
    simp only [List.length_cons]
    omega
theorem tabW_len {asks : Int → Bool} {lea : Int → Int → Bool} {set : List Int} (hset : set.Pairwise (· < ·)) (n : Nat) : (tabW asks lea set n).2.length ≤ set.length := by
  have ht := tabW_ok (asks := asks) (lea := lea) hset n
  have := len_sub (l := (tabW asks lea set n).2) (m := set.map (wayD asks lea set n)) (ht.sort.imp fun {a b} h e => by subst e; rw [lessL_irr] at h; cases h) fun v hv => by
    obtain ⟨k, h1, _, rfl⟩ := (ht.mem v).1 hv
    exact List.mem_map_of_mem h1
  simpa using this
theorem rowW_len (lea : Int → Int → Bool) (set : List Int) : ∀ (ws : List (List Int)) (st : List (Int × List Int) × List (List Int)), st.2.length ≤ (ws.foldl (rowW lea set) st).2.length
  | [], _ => Nat.le_refl _
  | w :: ws, st => by
    refine Nat.le_trans ?_ (rowW_len lea set ws (rowW lea set st w))
    show _ ≤ (st.2 ++ _).length
    simp
/-- The walk told with its end otherwise. -/
theorem PCtr.walkE {P : Program} {T : Nat → Option TI} (hT : TabOK P T) {Ω : Opq} (hΩ : Ω = std) {g : Nat} {c : Code} {N : Nat} {rs : List ResultVar} {xs : List A} {x : A} (hf : FnAt P g c N rs) (hN : Nat.ble xs.length N = true) {K0 : Exit → State → Prop}
    (hK0 : ∀ e S', K0 e S' → ∃ S'', Sbs S' S'' ∧ outV Ω T rs x e S'') (h : vC Ω P T c (entryS N xs) K0) : PCtr P g xs x :=
  PCtr.of hf (Nat.le_of_ble_eq_true hN) (VC.post (vstart hT hΩ h) fun e S' h => let ⟨S'', h1, h2⟩ := hK0 e S' h; ⟨S'', h1, outV_ok hT (hΩ ▸ h2)⟩)
/-- The end of a function that hands a map of its own back. -/
structure EndM (R : List A) (r q : Nat) (e : Exit) (S : State) : Prop where
  e : e = .normal ∨ e = .ret
  t : ev S (.tmp q) = .mp r
  r : Fw.rowAt S.rows r = some ⟨2, R, false⟩
theorem EndM.out {Ω : Opq} {T : Nat → Option TI} {R : List A} {r q : Nat} {e : Exit} {S : State} (h : EndM R r q e S) (hno : (flat R).all noOwn = true) : ∃ S'', Sbs S S'' ∧ outV Ω T [.tmp q] (.rmp R) e S'' := by
  have hs := Sbs.thaw0 h.r rfl hno
  refine ⟨_, hs, ?_⟩
  have hev : ev (S.thaw r 2 R) (.tmp q) = .rmp R := by
    have ht := h.t
    show (if q < S.N then lk (thawT r 2 R S.t) q else .un) = _
    have ht' : (if q < S.N then lk S.t q else .un) = .mp r := ht
    split
    · rename_i hq
      rw [if_pos hq] at ht'
      rw [lk_thawT, ht']
      show (if r = r then A.rmp R else .mp r) = _
      rw [if_pos rfl]
    · rename_i hq
      rw [if_neg hq] at ht'; cases ht'
  have : vOut Ω T (S.thaw r 2 R) [.tmp q] (.rmp R) := by
    unfold vOut
    simp only [vRes]
    rw [hev]
    exact .same
  rcases h.e with h | h <;> rw [h] <;> exact this
theorem take_nin {s : List Int} (hso : s.Pairwise (· < ·)) {j : Nat} {c : Int} (h : s[j]? = some c) : c ∉ s.take j := fun hc => by
  obtain ⟨i, hi⟩ := List.mem_iff_getElem?.1 hc
  rw [List.getElem?_take] at hi
  split at hi
  · rename_i hij
    have h1 := List.getElem?_eq_some_iff.1 hi
    have h2 := List.getElem?_eq_some_iff.1 h
    have := List.pairwise_iff_getElem.1 hso i j h1.1 h2.1 hij
    rw [h1.2, h2.2] at this
    omega
  · cases hi
theorem brT {p : Bool} {X Y : Prop} (h : p = true) (hx : X) : match (generalizing := false) p with | true => X | false => Y := by subst h; exact hx
theorem brF {p : Bool} {X Y : Prop} (h : p = false) (hy : Y) : match (generalizing := false) p with | true => X | false => Y := by subst h; exact hy
theorem notFT {Ω : Opq} (hΩ : Ω = std) : Ω.not false = true := by subst hΩ; rfl
theorem notTF {Ω : Opq} (hΩ : Ω = std) : Ω.not true = false := by subst hΩ; rfl
def asksB (l : List Pck) (a : List Trm) (k : Int) : Bool := a.any (givesB (pk l k))
def leaB (l : List Pck) (j k : Int) : Bool := nedB l k j
/-- The program's table. -/
def tabP (l : List Pck) (s : List Int) (a : List Trm) : List (Int × List Int) := (tabW (asksB l a) (leaB l) s s.length).1
theorem mapTy : ∃ kt et, PP.underlying 78 = some (.map kt et) ∧ PP.underlying kt = some (.int .i64) ∧ zeroT PP et = some (.slice none 0 0) := ⟨2, 23, by kernel_rfl, by kernel_rfl, by kernel_rfl⟩


set_option maxHeartbeats 400000 in
theorem c_ways (l : List Pck) (s : List Int) (a : List Trm) (hl : l.length ≤ 1048576) (hs : s.length ≤ 1048576) (ha : a.length ≤ 1048576) (ho : ∀ o ∈ l, o.Small) (hk : ∀ k ∈ s, inB k 0 ((l.length : Int) - 1) = true) (hso : s.Pairwise (· < ·)) :
    PCtr PP n_impl_ways [encP l, .sl false 1 (s.map i64), .sl false 7 (a.map Trm.enc)] (.rmp ((tabP l s a).map entA)) := by
  obtain ⟨Ω, hΩ⟩ : ∃ Ω, Ω = std := ⟨_, rfl⟩
  have hcg : ∀ k ∈ s, (0 ≤ k ∧ (l.map (Pck.enc false))[k.toNat]? = some ((pk l k).enc false)) ∧ PCtr PP n_impl_Pack_givesOne [(pk l k).enc false, .sl false 7 (a.map Trm.enc)] (boo (asksB l a k)) := fun k h => by
    obtain ⟨h1, h2, h3, h4⟩ := pk_at (hk k h)
    exact ⟨⟨h1, by rw [List.getElem?_map, h3]; rfl⟩, c_givesOne (pk l k) a (ho _ h4).p ha⟩
  have hcl : ∀ j ∈ s, ∀ k ∈ s, PCtr PP n_impl_leans [encP l, i64 j, i64 k] (boo (leaB l j k)) := fun j hj k hk' => c_leans l j k hl ho (hk j hj) (hk k hk')
  have hcc := fun (v : List Int) (h : v.length ≤ 1048576) => c_Clone v h
  obtain ⟨kt, et, ht, hkt, hz⟩ := mapTy
  obtain ⟨B, hB⟩ : ∃ B, B = asksB l a := ⟨_, rfl⟩
  obtain ⟨L, hL⟩ : ∃ L, L = leaB l := ⟨_, rfl⟩
  unfold tabP
  rw [← hB] at hcg ⊢
  rw [← hL] at hcl ⊢
  obtain ⟨xs, hxs⟩ : ∃ xs, xs = s.map i64 := ⟨_, rfl⟩
  have hlen : xs.length = s.length := by rw [hxs, List.length_map]
  obtain ⟨cs, hcs⟩ : ∃ cs, cs = l.map (Pck.enc false) := ⟨_, rfl⟩
  obtain ⟨zs, hzs⟩ : ∃ zs, zs = a.map Trm.enc := ⟨_, rfl⟩
  unfold encP at *
  rw [← hcs, ← hzs] at hcg
  rw [← hcs] at hcl
  rw [← hcs, ← hxs, ← hzs]
  have htab := tab
  have hmo := hmo
  have hRn : (flat ((tabW B L s s.length).1.map entA)).all noOwn = true := by
    rw [List.all_eq_true]
    intro x hx
    obtain ⟨y, hy, hx⟩ := List.mem_flatMap.1 hx
    obtain ⟨p, _, rfl⟩ := List.mem_map.1 hy
    simp only [entA, A.cells, List.mem_cons, List.not_mem_nil, or_false] at hx
    rcases hx with rfl | rfl <;> rfl
  generalize hR : (tabW B L s s.length).1.map entA = R at hRn ⊢
  refine PCtr.walkE tab hΩ fn_impl_ways rfl (K0 := EndM R 0 6) (fun e S' h => h.out hRn) ?_
  clear hRn
  generalize PP = P at *
  cbv
  refine ⟨opOK_makeMap rfl ?_⟩
  cbv
  obtain ⟨F, hF⟩ : ∃ F : Nat → List Int, F = fun j => (s.take j).filter B := ⟨_, rfl⟩
  have hFat : ∀ j c, s[j]? = some c → F (j + 1) = F j ++ (if B c then [c] else []) := fun j c h => by
    rw [hF]
    simp only
    rw [List.take_add_one, h, List.filter_append]
    congr 1
    cases hb : B c <;> simp [hb]
  have hFn : F s.length = s.filter B := by rw [hF]; simp only; rw [List.take_length]
  have hF0 : F 0 = [] := by rw [hF]; rfl
  have hFl : ∀ j, (F j).length ≤ s.length := fun j => by rw [hF]; exact Nat.le_trans (List.length_filter_le _ _) (by simp; omega)
  have hFno : ∀ j c, s[j]? = some c → c ∉ F j := fun j c h hc => by
    rw [hF] at hc
    exact take_nin hso h (List.mem_filter.1 hc).1
  obtain ⟨es, hes⟩ : ∃ es : Nat → List A, es = fun j => ((F j).map fun k => (k, [k])).map entA := ⟨_, rfl⟩
  obtain ⟨ys, hys⟩ : ∃ ys : Nat → List A, ys = fun j => (F j).map fun k => .sl false 1 [i64 k] := ⟨_, rfl⟩
  have hyl : ∀ j, (ys j).length = (F j).length := fun j => by rw [hys]; simp
  have hem : ∀ j, mok .i64 (es j) := fun j => by rw [hes]; exact mok_ent _
  have hef : ∀ j c, s[j]? = some c → mfind c (es j) = none := fun j c h => by
    rw [hes]
    simp only
    rw [mfind_ent, getK_map (fun k => [k]), if_neg (hFno j c h)]
    rfl
  refine loopX htab hΩ (fun i : Nat => ⟨[(0, .sl false 8 cs), (1, .sl false 1 xs), (2, .sl false 7 zs), (7, .mp 0), (8, .vw 1 0 (F i).length), (20, .sl false 1 xs), (21, i64 (Ω.int (Ω.len xs))), (22, i64 (Ω.int i))], 95,
      [some ⟨2, es i, false⟩, some ⟨1, ys i, false⟩]⟩) (fun i => i ≤ s.length) (fun i => s.length - i) 0 (Nat.zero_le _)
    (Sbs.mk rfl (by rw [hes, hys]; simp only; rw [hF0]; rfl) ⟨rfl, rfl, rfl, rfl, by rw [hF0]; rfl, rfl, rfl, zeroI hΩ, trivial⟩) ?_
  intro i hi
  have hFli := hFl i
  have hyli := hyl i
  have hFai := hFat i
  have hemi := hem i
  have hefi := hef i
  obtain ⟨m, hm⟩ : ∃ m, (F i).length = m := ⟨_, rfl⟩
  rw [hm] at hFli hyli ⊢
  cbv
  refine br (fun h => ?_) (fun h => ?_) <;> cbv
  · replace h := ltI hΩ h
    obtain ⟨k, hk'⟩ := at_of (cs := s) (show i < s.length by omega)
    have hkm := List.mem_of_getElem? hk'
    obtain ⟨⟨hp2, hp1⟩, hp4⟩ := hcg k hkm
    obtain ⟨ps1, ds1, bs1, hen1, hps1, hds1, hbs1⟩ := enc_raw (pk l k)
    rw [hen1] at hp1 hp4
    generalize pk l k = o at *
    refine ⟨⟨nnI hΩ⟩, _, rdI hΩ hxs hk', ?_⟩
    cbv
    refine ⟨⟨hp2⟩, _, hp1, ?_⟩
    cbv
    refine call_pure hΩ 5 hp4 rfl (fits _) rfl rfl ?_
    cbv
    refine br (fun hb => ?_) (fun hb => ?_) <;> cbv
    · refine HardX.sbs (Sbs.thaw0 (r := 2) rfl rfl rfl) ?_
      refine hard_upd (r := 0) (.inl rfl) ht hkt rfl rfl rfl rfl rfl rfl rfl rfl hemi (hefi k hk') ?_
      intro us hus
      replace hus : us = es i ++ [.agg [.sc (.int .i64 k), .sl false 1 [i64 k]]] := hus
      have hus1 : us = es (i + 1) := by rw [hus, hes]; simp only; rw [hFai k hk', hb]; simp [entA]; rfl
      subst hus1
      cbv
      refine hard_look (r := 0) rfl ht hkt hz rfl rfl rfl rfl (hem (i + 1)) (by rw [hus, mfind_app hemi (hefi k hk')]) ?_
      have hya : Ω.app (Ω.take m (ys i)) [.sl false 1 [i64 k]] = ys (i + 1) := by
        have e : Ω.take m (ys i) = ys i := by subst hΩ; exact List.take_of_length_le (by omega)
        rw [e, hys]
        simp only
        rw [hFai k hk', hb]
        subst hΩ
        show _ ++ _ = _
        simp
      have hyn : Ω.plus m (Ω.len [A.sl false 1 [i64 k]]) = (F (i + 1)).length := by
        rw [hFai k hk', hb, List.length_append, hm]
        subst hΩ
        rfl
      cbv
      refine ⟨⟨rfl, by simp [flat, A.cells, okCell], ?_, ?_⟩, i + 1, by omega, by omega, Sbs.trans (Sbs.cut 2 rfl) (Sbs.mk rfl (congrArg (fun y => [some (Row.mk 2 (es (i + 1)) false), some (Row.mk 1 y false)]) hya) ⟨rfl, rfl, rfl, rfl, congrArg (A.vw 1 0) hyn, rfl, rfl, incI hΩ (by omega), trivial⟩)⟩
      · show (m + 1) * 24 ≤ 140737488355328
        omega
      · show m + 1 ≤ maxLen
        unfold maxLen
        omega
    · have hFe : F (i + 1) = F i := by rw [hFai k hk', hb]; simp
      have he1 : es i = es (i + 1) := by rw [hes]; simp only; rw [hFe]
      have hy1 : ys i = ys (i + 1) := by rw [hys]; simp only; rw [hFe]
      have hn1 : m = (F (i + 1)).length := by rw [hFe, hm]
      refine ⟨i + 1, by omega, by omega, Sbs.mk rfl ?_ ⟨rfl, rfl, rfl, rfl, congrArg (A.vw 1 0) hn1, rfl, rfl, incI hΩ (by omega), trivial⟩⟩
      show [some (Row.mk 2 (es i) false), some (Row.mk 1 (ys i) false)] = [some (Row.mk 2 (es (i + 1)) false), some (Row.mk 1 (ys (i + 1)) false)]
      rw [← he1, ← hy1]
  have hni : i = s.length := by have := geI hΩ h; omega
  subst hni
  have hW : ∀ n, TabWOK B L s n := fun n => tabW_ok hso n
  have hWl : ∀ n w, w ∈ (tabW B L s n).2 → n < s.length ∧ w.length = n + 1 ∧ lastW w ∈ s ∧ w.getLast? = some (lastW w) := fun n w hw => by
    obtain ⟨k, h1, h2, rfl⟩ := ((hW n).mem w).1 hw
    refine ⟨lvD_lt h1 h2, wayD_len h2, ?_, ?_⟩
    · rw [lastW_wayD]; exact h1
    · rw [lastW_wayD]; exact wayD_last n k
  have hWn : ∀ n, (tabW B L s n).2.length ≤ s.length := fun n => tabW_len hso n
  obtain ⟨Mo, hMo⟩ : ∃ Mo : List (Int × List Int) → List A, Mo = fun o => o.map entA := ⟨_, rfl⟩
  obtain ⟨Nx, hNx⟩ : ∃ Nx : List (List Int) → List A, Nx = fun o => o.map fun v => .sl false 1 (v.map i64) := ⟨_, rfl⟩
  have hNl : ∀ x, (Nx x).length = x.length := fun x => by rw [hNx]; simp
  have hmM : ∀ o, mok .i64 (Mo o) := fun o => by rw [hMo]; exact mok_ent o
  have hfM : ∀ o k, mfind k (Mo o) = (getK o k).map fun v => .sl false 1 (v.map i64) := fun o k => by rw [hMo]; exact mfind_ent o k
  obtain ⟨To, hTo⟩ : ∃ To : Nat → List A, To = fun n => Mo (tabW B L s n).1 := ⟨_, rfl⟩
  obtain ⟨Tl, hTl⟩ : ∃ Tl : Nat → List A, Tl = fun n => Nx (tabW B L s n).2 := ⟨_, rfl⟩
  obtain ⟨Tn, hTn⟩ : ∃ Tn : Nat → Nat, Tn = fun n => (tabW B L s n).2.length := ⟨_, rfl⟩
  have hRM : R = To s.length := by rw [hTo, hMo]; exact hR.symm
  have he0 : es s.length = To 0 := by rw [hes, hTo, hMo]; simp only; rw [hFn]; rfl
  have hy0 : ys s.length = Tl 0 := by rw [hys, hTl, hNx]; simp only; rw [hFn]; show _ = List.map _ (List.map _ _); rw [List.map_map]; rfl
  have hm0 : m = Tn 0 := by rw [← hm, hFn, hTn]; show _ = (List.map _ _).length; rw [List.length_map]
  refine loopX htab hΩ (fun n : Nat => ⟨[(0, .sl false 8 cs), (1, .sl false 1 xs), (2, .sl false 7 zs), (7, .mp 0), (8, .vw 1 0 (Tn n))], 95,
      [some ⟨2, To n, false⟩, some ⟨1, Tl n, false⟩]⟩) (fun n => n ≤ s.length) (fun n => s.length - n) 0 (Nat.zero_le _)
    (Sbs.mk rfl (by
      show [some (Row.mk 2 (es s.length) false), some (Row.mk 1 (ys s.length) false)] = [some (Row.mk 2 (To 0) false), some (Row.mk 1 (Tl 0) false)]
      rw [he0, hy0]) ⟨rfl, rfl, rfl, rfl, congrArg (A.vw 1 0) hm0, trivial⟩) ?_
  intro n hn
  have hWl := hWl n
  have hWn1 := hWn (n + 1)
  obtain ⟨o0, ho0⟩ : ∃ o, o = (tabW B L s n).1 := ⟨_, rfl⟩
  obtain ⟨lv, hlv⟩ : ∃ o, o = (tabW B L s n).2 := ⟨_, rfl⟩
  have hend : lv = [] → R = To n := fun h => by
    have := tabW_const (by rw [← hlv]; exact h) (s.length - n)
    rw [show n + (s.length - n) = s.length by omega] at this
    rw [hRM, hTo]
    simp only
    rw [this]
  have hstep : lv.foldl (rowW L s) (o0, []) = tabW B L s (n + 1) := by rw [ho0, hlv]; rfl
  have hle : lv ≠ [] → n < s.length := fun h => tabW_lt hso (by rw [← hlv]; exact h)
  have hWn0 := hWn n
  rw [← hlv] at hWn0 hWl
  have ht1 : To (n + 1) = Mo (lv.foldl (rowW L s) (o0, [])).1 := by rw [hTo, hstep]
  have ht2 : Tl (n + 1) = Nx (lv.foldl (rowW L s) (o0, [])).2 := by rw [hTl, hstep]
  have ht3 : Tn (n + 1) = (lv.foldl (rowW L s) (o0, [])).2.length := by rw [hTn, hstep]
  have hwn1 : (lv.foldl (rowW L s) (o0, [])).2.length ≤ s.length := by rw [hstep]; exact hWn1
  have ht4 : To n = Mo o0 := by rw [hTo, ho0]
  have ht5 : Tl n = Nx lv := by rw [hTl, hlv]
  obtain ⟨nl, hnl⟩ : ∃ nl, nl = lv.length := ⟨_, rfl⟩
  have ht6 : Tn n = nl := by rw [hTn, hnl, hlv]
  rw [ht4, ht5, ht6]
  clear hWn hF hFat hFn hF0 hFl hFno hes hys hyl hem hef hFai hemi hefi hyli hFli h he0 hy0 hm0 hm hi hR hRM hTo hTl hTn ho0 hlv hstep hWn1
  cbv
  refine br (fun h => ?_) (fun h => ?_) <;> cbv
  · have hlv0 : lv ≠ [] := fun e => by
      rw [e] at hnl
      subst hnl
      have := gtI_t hΩ h
      subst hΩ
      have h2 : (0 : Int) < ((0 : Nat) : Int) := this
      omega
    have hns := hle hlv0
    obtain ⟨St, hSt⟩ : ∃ St : Nat → List (Int × List Int) × List (List Int), St = fun j => (lv.take j).foldl (rowW L s) (o0, []) := ⟨_, rfl⟩
    have hSt1 : ∀ j w, lv[j]? = some w → St (j + 1) = rowW L s (St j) w := fun j w h => by
      rw [hSt]
      simp only
      rw [List.take_add_one, h, List.foldl_append]
      rfl
    have hSt0 : St 0 = (o0, []) := by rw [hSt]; rfl
    have hStn : St nl = lv.foldl (rowW L s) (o0, []) := by rw [hSt]; simp only; rw [List.take_of_length_le (by omega)]
    have hStl : ∀ j, (St j).2.length ≤ s.length := fun j => by
      refine Nat.le_trans ?_ hwn1
      rw [hSt]
      simp only
      conv => rhs; rw [← List.take_append_drop j lv, List.foldl_append]
      exact rowW_len L s _ _
    rw [← hStn] at ht1 ht2 ht3
    obtain ⟨So, hSo⟩ : ∃ So : Nat → List A, So = fun j => Mo (St j).1 := ⟨_, rfl⟩
    obtain ⟨Sx, hSx⟩ : ∃ Sx : Nat → List A, Sx = fun j => Nx (St j).2 := ⟨_, rfl⟩
    obtain ⟨Sn, hSn⟩ : ∃ Sn : Nat → Nat, Sn = fun j => (St j).2.length := ⟨_, rfl⟩
    have hs1 : So 0 = Mo o0 := by rw [hSo]; simp only; rw [hSt0]
    have hs2 : Sx 0 = [] := by rw [hSx]; simp only; rw [hSt0, hNx]; rfl
    have hs3 : Sn 0 = 0 := by rw [hSn]; simp only; rw [hSt0]; rfl
    have hs4 : So nl = To (n + 1) := by rw [ht1, hSo]
    have hs5 : Sx nl = Tl (n + 1) := by rw [ht2, hSx]
    have hs6 : Sn nl = Tn (n + 1) := by rw [ht3, hSn]
    refine loopX htab hΩ (fun j : Nat => ⟨[(0, .sl false 8 cs), (1, .sl false 1 xs), (2, .sl false 7 zs), (7, .mp 0), (8, .vw 1 0 nl), (11, .vw 2 0 (Sn j)), (47, .vw 1 0 nl), (48, i64 (Ω.int nl)), (49, i64 (Ω.int j))], 95,
        [some ⟨2, So j, false⟩, some ⟨1, Nx lv, false⟩, some ⟨1, Sx j, false⟩]⟩) (fun j => j ≤ nl) (fun j => nl - j) 0 (Nat.zero_le _)
      (Sbs.mk rfl (by
        show [some (Row.mk 2 (Mo o0) false), some (Row.mk 1 (Nx lv) false), some (Row.mk 1 [] false)] = [some (Row.mk 2 (So 0) false), some (Row.mk 1 (Nx lv) false), some (Row.mk 1 (Sx 0) false)]
        rw [hs1, hs2]) ⟨rfl, rfl, rfl, rfl, rfl, congrArg (A.vw 2 0) hs3.symm, rfl, rfl, zeroI hΩ, trivial⟩) ?_
    intro j hj
    cbv
    refine br (fun h => ?_) (fun h => ?_) <;> cbv
    · have hjl : j < nl := by subst hΩ; have h2 : ((j : Nat) : Int) < (nl : Nat) := lt_t h; omega
      obtain ⟨w, hw⟩ := at_of (cs := lv) (show j < lv.length by omega)
      have hread : (Nx lv)[Ω.plus 0 (Ω.nat (Ω.int j))]? = some (.sl false 1 (w.map i64)) := by
        subst hΩ
        show (Nx lv)[0 + j]? = _
        rw [Nat.zero_add, hNx]
        simp only
        rw [List.getElem?_map, hw]; rfl
      obtain ⟨_, hwl, hwm, hwl2⟩ := hWl w (List.mem_of_getElem? hw)
      obtain ⟨ws, hws⟩ : ∃ ws, ws = w.map i64 := ⟨_, rfl⟩
      rw [← hws] at hread
      refine ⟨⟨nnI hΩ, by subst hΩ; exact Int.ofNat_lt.2 hjl⟩, _, hread, ?_⟩
      cbv
      have hwsl : ws.length = n + 1 := by rw [hws, List.length_map]; exact hwl
      have hsub : Ω.ar .sub .i64 (Ω.int (Ω.len ws)) 1 = (n : Int) := by
        subst hΩ
        show IntKind.i64.wrap ((ws.length : Int) - 1) = _
        rw [hwsl]
        have : ((n + 1 : Nat) : Int) - 1 = n := by omega
        rw [this]
        exact wrap64 (by omega) (by omega)
      have hlast : ws[n]? = some (i64 (lastW w)) := by
        rw [hws, List.getElem?_map]
        have : w[n]? = some (lastW w) := by rw [← hwl2, List.getLast?_eq_getElem?, hwl]; rfl
        rw [this]; rfl
      obtain ⟨o, hoo⟩ : ∃ o, o = (St j).1 := ⟨_, rfl⟩
      obtain ⟨x, hsx⟩ : ∃ x, x = (St j).2 := ⟨_, rfl⟩
      obtain ⟨q, hq⟩ : ∃ q : Int → Bool, q = fun k => (getK o k).isNone && L (lastW w) k := ⟨_, rfl⟩
      obtain ⟨H, hH⟩ : ∃ H : Nat → List Int, H = fun i => (s.take i).filter q := ⟨_, rfl⟩
      have hHat : ∀ i c, s[i]? = some c → H (i + 1) = H i ++ (if q c then [c] else []) := fun i c h => by
        rw [hH]
        simp only
        rw [List.take_add_one, h, List.filter_append]
        congr 1
        cases hb : q c <;> simp [hb]
      have hH0 : H 0 = [] := by rw [hH]; rfl
      have hHn : H s.length = newK L s o w := by rw [hH]; simp only; rw [List.take_length, hq]; rfl
      have hHno : ∀ i c, s[i]? = some c → c ∉ H i := fun i c h hc => by
        rw [hH] at hc
        exact take_nin hso h (List.mem_filter.1 hc).1
      have hHl : ∀ i, (H i).length ≤ (H s.length).length := fun i => by
        rw [hH]
        simp only
        rw [List.take_length]
        exact ((List.take_sublist i s).filter q).length_le
      have hfull : St (j + 1) = (o ++ (H s.length).map (fun k => (k, w ++ [k])), x ++ (H s.length).map fun k => w ++ [k]) := by
        rw [hSt1 j w hw, hHn, hoo, hsx]; rfl
      have hxl : ∀ i, x.length + (H i).length ≤ s.length := fun i => by
        have h1 := hStl (j + 1)
        rw [hfull] at h1
        simp only [List.length_append, List.length_map] at h1
        have := hHl i
        omega
      obtain ⟨Oi, hOi⟩ : ∃ Oi : Nat → List A, Oi = fun i => Mo (o ++ (H i).map fun k => (k, w ++ [k])) := ⟨_, rfl⟩
      obtain ⟨Xi, hXi⟩ : ∃ Xi : Nat → List A, Xi = fun i => Nx (x ++ (H i).map fun k => w ++ [k]) := ⟨_, rfl⟩
      obtain ⟨Ni, hNi⟩ : ∃ Ni : Nat → Nat, Ni = fun i => x.length + (H i).length := ⟨_, rfl⟩
      have g1 : So j = Oi 0 := by rw [hSo, hOi]; simp only; rw [hH0, ← hoo]; simp
      have g2 : Sx j = Xi 0 := by rw [hSx, hXi]; simp only; rw [hH0, ← hsx]; simp
      have g3 : Sn j = Ni 0 := by rw [hSn, hNi]; simp only; rw [hH0, ← hsx]; simp
      have g4 : Oi s.length = So (j + 1) := by rw [hSo, hOi]; simp only; rw [hfull]
      have g5 : Xi s.length = Sx (j + 1) := by rw [hSx, hXi]; simp only; rw [hfull]
      have g6 : Ni s.length = Sn (j + 1) := by rw [hSn, hNi]; simp only; rw [hfull]; simp
      have hOm : ∀ i, mok .i64 (Oi i) := fun i => by rw [hOi]; exact hmM _
      have hOf : ∀ i k, s[i]? = some k → mfind k (Oi i) = (getK o k).map fun v => .sl false 1 (v.map i64) := fun i k h => by
        rw [hOi]
        simp only
        rw [hfM, getK_append, getK_map (fun k => w ++ [k]), if_neg (hHno i k h), Option.or_none]
      have hXl : ∀ i, (Xi i).length = Ni i := fun i => by rw [hXi, hNi]; simp only; rw [hNl]; simp
      have hNl2 : ∀ i, Ni i ≤ s.length := fun i => by rw [hNi]; exact hxl i
      have hstp : ∀ i k, s[i]? = some k → q k = true → Oi (i + 1) = Oi i ++ [.agg [.sc (.int .i64 k), .sl false 1 ((w ++ [k]).map i64)]] ∧ Xi (i + 1) = Xi i ++ [.sl false 1 ((w ++ [k]).map i64)] ∧ Ni (i + 1) = Ni i + 1 := fun i k h hqk => by
        rw [hOi, hXi, hNi, hMo, hNx]
        simp only
        rw [hHat i k h, if_pos hqk]
        refine ⟨?_, ?_, ?_⟩
        · simp [entA]; rfl
        · simp
        · simp; omega
      have hnst : ∀ i k, s[i]? = some k → q k = false → Oi (i + 1) = Oi i ∧ Xi (i + 1) = Xi i ∧ Ni (i + 1) = Ni i := fun i k h hqk => by
        rw [hOi, hXi, hNi]
        simp only
        rw [hHat i k h, if_neg (by simp [hqk]), List.append_nil]
        exact ⟨rfl, rfl, rfl⟩
      have hcc := hcc w (by omega)
      have hcl := hcl (lastW w) hwm
      unfold ints at hcc
      rw [← hws] at hcc
      have hwsr : roFree (.sl true 1 ws) = true := by rw [hws]; exact roF_I w
      have hwa : ∀ k, (w ++ [k]).map i64 = ws ++ [i64 k] := fun k => by rw [hws]; simp
      have hlw : Ω.len ws = n + 1 := by rw [← hwsl]; subst hΩ; rfl
      have hsub0 : 0 ≤ Ω.ar .sub .i64 (Ω.int (Ω.len ws)) 1 := by rw [hsub]; omega
      replace hlast : ws[(Ω.ar .sub .i64 (Ω.int (Ω.len ws)) 1).toNat]? = some (i64 (lastW w)) := by rw [hsub]; exact hlast
      have hqe : ∀ k, q k = ((getK o k).isNone && L (lastW w) k) := fun k => by rw [hq]
      generalize lastW w = lw at *
      clear hHat hH0 hHn hHno hHl hfull hxl hOi hXi hNi hH hq
      refine loopX htab hΩ (fun i : Nat => ⟨[(0, .sl false 8 cs), (1, .sl false 1 xs), (2, .sl false 7 zs), (7, .mp 0), (8, .vw 1 0 nl), (11, .vw 2 0 (Ni i)), (13, .sl false 1 ws), (47, .vw 1 0 nl), (48, i64 (Ω.int nl)), (49, i64 (Ω.int j)), (53, .sl false 1 xs), (54, i64 (Ω.int (Ω.len xs))), (55, i64 (Ω.int i))], 95,
          [some ⟨2, Oi i, false⟩, some ⟨1, Nx lv, false⟩, some ⟨1, Xi i, false⟩]⟩) (fun i => i ≤ s.length) (fun i => s.length - i) 0 (Nat.zero_le _)
        (Sbs.mk rfl (by
          show [some (Row.mk 2 (So j) false), some (Row.mk 1 (Nx lv) false), some (Row.mk 1 (Sx j) false)] = [some (Row.mk 2 (Oi 0) false), some (Row.mk 1 (Nx lv) false), some (Row.mk 1 (Xi 0) false)]
          rw [g1, g2]) ⟨rfl, rfl, rfl, rfl, rfl, congrArg (A.vw 2 0) g3, rfl, rfl, rfl, rfl, rfl, rfl, zeroI hΩ, trivial⟩) ?_
      intro i hi
      have hOmi := hOm i
      have hOfi := hOf i
      have hXli := hXl i
      have hNli := hNl2 i
      have hstpi := hstp i
      have hnsti := hnst i
      obtain ⟨m, hm⟩ : ∃ m, Ni i = m := ⟨_, rfl⟩
      rw [hm] at hXli hNli ⊢
      cbv
      refine br (fun h => ?_) (fun h => ?_) <;> cbv
      · replace h := ltI hΩ h
        obtain ⟨k, hk'⟩ := at_of (cs := s) (show i < s.length by omega)
        have hkm := List.mem_of_getElem? hk'
        refine ⟨⟨nnI hΩ⟩, _, rdI hΩ hxs hk', ?_⟩
        cbv
        have hOfi := hOfi k hk'
        cases hg : getK o k with
        | some v =>
          rw [hg] at hOfi
          have hqk : q k = false := by rw [hqe, hg]; rfl
          obtain ⟨e1, e2, e3⟩ := hnsti k hk' hqk
          obtain ⟨vs, hvs⟩ : ∃ vs, vs = v.map i64 := ⟨_, rfl⟩
          replace hOfi : mfind k (Oi i) = some (.sl false 1 vs) := by rw [hOfi, hvs]; rfl
          clear hvs
          refine hard_look (r := 0) (ok := true) (z := .tup [.sl false 1 vs, .sc (.bool true)]) rfl ht hkt hz rfl rfl rfl rfl hOmi (by show lkA true (mfind k (Oi i)) _ = _; rw [hOfi]; rfl) ?_
          cbv
          refine brF (notTF hΩ) ?_
          cbv
          refine ⟨i + 1, by omega, by omega, Sbs.mk rfl (by
            show [some (Row.mk 2 (Oi i) false), some (Row.mk 1 (Nx lv) false), some (Row.mk 1 (Xi i) false)] = [some (Row.mk 2 (Oi (i + 1)) false), some (Row.mk 1 (Nx lv) false), some (Row.mk 1 (Xi (i + 1)) false)]
            rw [e1, e2]) ⟨rfl, rfl, rfl, rfl, rfl, congrArg (A.vw 2 0) (hm.symm.trans e3.symm), rfl, rfl, rfl, rfl, rfl, rfl, incI hΩ (by omega), trivial⟩⟩
        | none =>
          rw [hg] at hOfi
          replace hOfi : mfind k (Oi i) = none := by rw [hOfi]; rfl
          refine hard_look (r := 0) (ok := true) (z := .tup [.nil, .sc (.bool false)]) rfl ht hkt hz rfl rfl rfl rfl hOmi (by show lkA true (mfind k (Oi i)) _ = _; rw [hOfi]; rfl) ?_
          cbv
          refine brT (notFT hΩ) ?_
          cbv
          refine ⟨⟨hsub0⟩, _, hlast, ?_⟩
          cbv
          refine call_pure hΩ 3 (hcl k hkm) rfl (fits _) rfl rfl ?_
          cbv
          refine br (fun h2 => ?_) (fun h2 => ?_) <;> cbv
          · have hqk : q k = true := by rw [hqe, hg]; subst hΩ; simpa [std] using h2
            obtain ⟨e1, e2, e3⟩ := hstpi k hk' hqk
            rw [hwa] at e1 e2
            obtain ⟨vk, hvk⟩ : ∃ vk, vk = ws ++ [i64 k] := ⟨_, rfl⟩
            rw [← hvk] at e1 e2
            have hap : Ω.app (Ω.take (Ω.len ws) ws) [i64 k] = vk := by
              rw [hvk]
              subst hΩ
              show ws.take ws.length ++ _ = _
              rw [List.take_length]
            have hvn : (flat (Ω.app (Ω.take (Ω.len ws) ws) [i64 k])).all noOwn = true := by
              rw [hap, hvk, hws]
              have : (flat ((w ++ [k]).map i64)).all noOwn = true := by
                rw [List.all_eq_true]
                intro y hy
                obtain ⟨z, hz', hy⟩ := List.mem_flatMap.1 hy
                obtain ⟨p, _, rfl⟩ := List.mem_map.1 hz'
                rw [show y = i64 p from List.mem_singleton.1 hy]; rfl
              simpa using this
            have hseg : ((Ω.app (Ω.take (Ω.len ws) ws) [i64 k]).drop 0).take (Ω.plus (Ω.len ws) (Ω.len [i64 k])) = vk := by
              rw [hap, List.drop_zero]
              refine List.take_of_length_le ?_
              rw [hvk]
              subst hΩ
              show (ws ++ [i64 k]).length ≤ ws.length + 1
              simp
            have hxa : Ω.app (Ω.take m (Xi i)) [.sl false 1 vk] = Xi (i + 1) := by
              rw [e2]
              subst hΩ
              show (Xi i).take m ++ _ = _
              rw [List.take_of_length_le (by omega)]
            have hxn : Ω.plus m (Ω.len [A.sl false 1 vk]) = Ni (i + 1) := by
              rw [e3, hm]
              subst hΩ
              rfl
            have hNi1 := hNl2 (i + 1)
            rw [e3, hm] at hNi1
            refine call_pure hΩ 3 hcc rfl (fits _) hwsr rfl ?_
            cbv
            refine ⟨⟨rfl, by simp [flat, A.cells, okCell], ?_, ?_⟩, ?_⟩
            · show (Ω.len ws + 1) * 8 ≤ 140737488355328
              rw [hlw]; omega
            · show Ω.len ws + 1 ≤ maxLen
              rw [hlw]; unfold maxLen; omega
            refine HardX.sbs (S' := ⟨[(0, .sl false 8 cs), (1, .sl false 1 xs), (2, .sl false 7 zs), (7, .mp 0), (8, .vw 1 0 nl), (11, .vw 2 0 m), (13, .sl false 1 ws), (47, .vw 1 0 nl), (48, i64 (Ω.int nl)), (49, i64 (Ω.int j)), (53, .sl false 1 xs), (54, i64 (Ω.int (Ω.len xs))), (55, i64 (Ω.int i)), (15, i64 k), (78, .mp 0), (79, i64 k), (84, .sl false 1 vk)], 95,
                [some ⟨2, Oi i, false⟩, some ⟨1, Nx lv, false⟩, some ⟨1, Xi i, false⟩]⟩)
              (Sbs.trans (Sbs.thaw0 (r := 3) rfl rfl hvn) (Sbs.trans (Sbs.cut 3 rfl) (Sbs.mk rfl rfl ⟨rfl, rfl, rfl, rfl, rfl, rfl, rfl, rfl, rfl, rfl, rfl, rfl, rfl, rfl, rfl, rfl, congrArg (A.sl false 1) hseg, trivial⟩))) ?_
            refine hard_upd (r := 0) (z := .sl false 1 vk) (.inl rfl) ht hkt rfl rfl rfl rfl rfl rfl rfl rfl hOmi hOfi ?_
            intro us hus
            replace hus : us = Oi i ++ [.agg [.sc (.int .i64 k), .sl false 1 vk]] := hus
            have hfn : mfind k us = some (.sl false 1 vk) := by rw [hus]; exact mfind_app hOmi hOfi
            rw [← e1] at hus
            subst hus
            cbv
            refine hard_look (r := 0) (z := .sl false 1 vk) rfl ht hkt hz rfl rfl rfl rfl (hOm (i + 1)) (by show lkA false (mfind k (Oi (i + 1))) _ = _; rw [hfn]; rfl) ?_
            cbv
            refine ⟨⟨rfl, by simp [flat, A.cells, okCell], ?_, ?_⟩, i + 1, by omega, by omega, Sbs.trans (Sbs.cut 3 rfl) (Sbs.mk rfl (congrArg (fun y => [some (Row.mk 2 (Oi (i + 1)) false), some (Row.mk 1 (Nx lv) false), some (Row.mk 1 y false)]) hxa) ⟨rfl, rfl, rfl, rfl, rfl, congrArg (A.vw 2 0) hxn, rfl, rfl, rfl, rfl, rfl, rfl, incI hΩ (by omega), trivial⟩)⟩
            · show (m + 1) * 24 ≤ 140737488355328
              omega
            · show m + 1 ≤ maxLen
              unfold maxLen; omega
          · have hqk : q k = false := by rw [hqe, hg]; subst hΩ; simpa [std] using h2
            obtain ⟨e1, e2, e3⟩ := hnsti k hk' hqk
            refine ⟨i + 1, by omega, by omega, Sbs.mk rfl (by
              show [some (Row.mk 2 (Oi i) false), some (Row.mk 1 (Nx lv) false), some (Row.mk 1 (Xi i) false)] = [some (Row.mk 2 (Oi (i + 1)) false), some (Row.mk 1 (Nx lv) false), some (Row.mk 1 (Xi (i + 1)) false)]
              rw [e1, e2]) ⟨rfl, rfl, rfl, rfl, rfl, congrArg (A.vw 2 0) (hm.symm.trans e3.symm), rfl, rfl, rfl, rfl, rfl, rfl, incI hΩ (by omega), trivial⟩⟩
      · have hin : i = s.length := by have := geI hΩ h; omega
        subst hin
        rw [← hm] at *
        refine ⟨j + 1, by omega, by omega, Sbs.mk rfl (by
          show [some (Row.mk 2 (Oi s.length) false), some (Row.mk 1 (Nx lv) false), some (Row.mk 1 (Xi s.length) false)] = [some (Row.mk 2 (So (j + 1)) false), some (Row.mk 1 (Nx lv) false), some (Row.mk 1 (Sx (j + 1)) false)]
          rw [g4, g5]) ⟨rfl, rfl, rfl, rfl, rfl, congrArg (A.vw 2 0) g6, rfl, rfl, incI hΩ (by omega), trivial⟩⟩
    · have hjn : j = nl := by
        have : ¬ (Ω.int j < Ω.int nl) := by subst hΩ; exact fun h' => by have := lt_f h; omega
        subst hΩ
        have h2 : ¬ (((j : Nat) : Int) < ((nl : Nat) : Int)) := this
        omega
      subst hjn
      refine ⟨n + 1, by omega, by omega, Sbs.trans (Sbs.drop (r := 1) rfl) (Sbs.trans (Sbs.mv (a := 2) (b := 1) rfl rfl (Nat.lt_of_lt_of_eq (show 1 < 3 by omega) rfl)) (Sbs.trans (Sbs.cut 2 rfl) (Sbs.mk rfl (by
        show [some (Row.mk 2 (So j) false), some (Row.mk 1 (Sx j) false)] = [some (Row.mk 2 (To (n + 1)) false), some (Row.mk 1 (Tl (n + 1)) false)]
        rw [hs4, hs5]) ⟨rfl, rfl, rfl, rfl, congrArg (A.vw 1 0) hs6, trivial⟩)))⟩
  · have hlv0 : lv = [] := List.eq_nil_of_length_eq_zero (by
      have := gtI_f hΩ h
      subst hΩ
      have h2 : ((nl : Nat) : Int) ≤ 0 := this
      omega)
    have hR := hend hlv0
    rw [hR, ht4]
    exact ⟨.inr rfl, rfl, rfl⟩
end Go.Proofs.YtomfmdfamlmfiaaGreat

/- The reference's ways, walked: who is asked for, places, which list is less, how far. Plain theorems. -/
set_option linter.unusedVariables false
set_option linter.unusedSimpArgs false
namespace Go.Proofs.YtomfmdfamlmfiaaGreat
open Go Go.Fw
set_option maxRecDepth 100000
theorem c_l13Asks (l : List Pck) (bs : List Trm) (k : Int) (hl : l.length ≤ 1048576) (hb : bs.length ≤ 1048576) (hs : ∀ o ∈ l, o.Small) (hk : inB k 0 ((l.length : Int) - 1) = true) : PCtr PP n_spec_l13Asks [encP l, .sl false 7 (bs.map Trm.enc), i64 k] (boo (bs.any (givesB (pk l k)))) := by
  obtain ⟨Ω, hΩ⟩ : ∃ Ω, Ω = std := ⟨_, rfl⟩
  obtain ⟨r, hr⟩ : ∃ r, r = bs.any (givesB (pk l k)) := ⟨_, rfl⟩
  rw [← hr]
  obtain ⟨xs, hxs⟩ : ∃ xs, xs = l.map (Pck.enc false) := ⟨_, rfl⟩
  have hlen : xs.length = l.length := by rw [hxs, List.length_map]
  unfold encP at *
  rw [← hxs]
  obtain ⟨ys, hys⟩ : ∃ ys, ys = bs.map Trm.enc := ⟨_, rfl⟩
  have hylen : ys.length = bs.length := by rw [hys, List.length_map]
  rw [← hys]
  obtain ⟨hk0, hkl, hka, hkm⟩ := pk_at hk
  obtain ⟨ps2, ds2, bs2, hen2, hps2, hds2, hbs2⟩ := enc_raw (pk l k)
  have hx2 : xs[k.toNat]? = some (Pck.enc false (pk l k)) := by rw [hxs, List.getElem?_map, hka]; rfl
  rw [hen2] at hx2
  have hg := fun t => c_l2Gives (pk l k) t (by have := (hs _ hkm).p; omega)
  rw [hen2] at hg
  generalize givesB (pk l k) = G at *
  clear hka hkm hps2 hds2 hbs2 hen2
  generalize pk l k = pp at *
  have htab := tab
  have hmo := hmo
  have hve := verEq
  refine PCtr.walk tab hΩ fn_spec_l13Asks rfl ?_
  generalize PP = P at *
  cbv
  refine loopX htab hΩ (fun i : Nat => ⟨[(0, .sl false 8 xs), (1, .sl false 7 ys), (2, .sc (.int .i64 k)), (7, .sc (.int .i64 (Ω.int i)))], 23, []⟩) (fun i => i ≤ bs.length ∧ r = (bs.drop i).any G) (fun i => bs.length - i) 0
    ⟨Nat.zero_le _, hr⟩ (Sbs.mk rfl rfl ⟨rfl, rfl, rfl, zeroI hΩ, trivial⟩) ?_
  rintro i ⟨hi, he⟩
  cbv
  refine br (fun h => ?_) (fun h => ?_) <;> cbv
  · replace h := ltI hΩ h
    obtain ⟨c, hcc⟩ := at_of (cs := bs) (by omega : i < bs.length)
    rw [any_at _ hcc] at he
    refine ⟨VC_drawn htab hΩ hmo (by kernel_rfl) ?_⟩
    cbv
    refine ⟨⟨hk0⟩, _, hx2, ?_⟩
    cbv
    refine ⟨⟨nnI hΩ⟩, _, rdI hΩ hys hcc, ?_⟩
    cbv
    refine QCall_pure (k := 3) (hg c) rfl (fits _) rfl ?_
    cbv
    refine br (fun g => ?_) (fun g => ?_) <;> cbv
    · exact .of (congrArg boo (by rw [he, show G c = true from g]; rfl))
    · rw [show G c = false from g, Bool.false_or] at he
      exact ⟨i + 1, ⟨by omega, he⟩, by omega, Sbs.mk rfl rfl ⟨rfl, rfl, rfl, incI hΩ (by omega), trivial⟩⟩
  · replace h := geI hΩ h
    exact .of (congrArg boo (by rw [he, List.drop_of_length_le (by omega)]; rfl))
theorem c_l13Place (l : List Int) (s : Int) (hl : l.length ≤ 4611686018427387904) : PCtr PP n_spec_l13Place [.sl false 1 (l.map i64), i64 s] (i64 (idx (fun c => s == c) l)) := by
  obtain ⟨Ω, hΩ⟩ : ∃ Ω, Ω = std := ⟨_, rfl⟩
  obtain ⟨r, hr⟩ : ∃ r, r = idx (fun c => s == c) l := ⟨_, rfl⟩
  rw [← hr]
  obtain ⟨xs, hxs⟩ : ∃ xs, xs = l.map i64 := ⟨_, rfl⟩
  have hlen : xs.length = l.length := by rw [hxs, List.length_map]
  rw [← hxs]
  have htab := tab
  refine PCtr.walk tab hΩ fn_spec_l13Place rfl ?_
  generalize PP = P at *
  cbv
  refine loopX htab hΩ (fun i : Nat => ⟨[(0, .sl false 1 xs), (1, .sc (.int .i64 s)), (5, .sc (.int .i64 (Ω.int i)))], 19, []⟩) (fun i => i ≤ l.length ∧ r = idxFrom (fun c => s == c) i (l.drop i)) (fun i => l.length - i) 0
    ⟨Nat.zero_le _, hr⟩ (Sbs.mk rfl rfl ⟨rfl, rfl, zeroI hΩ, trivial⟩) ?_
  rintro i ⟨hi, he⟩
  cbv
  refine br (fun h => ?_) (fun h => ?_) <;> cbv
  · replace h := ltI hΩ h
    obtain ⟨c, hcc⟩ := at_of (cs := l) (by omega : i < l.length)
    rw [idxFrom_at _ hcc] at he
    refine ⟨⟨nnI hΩ⟩, _, rdI hΩ hxs hcc, ?_⟩
    cbv
    refine br (fun g => ?_) (fun g => ?_) <;> cbv
    · exact .of (congrArg i64 (by rw [he, if_pos (by have := eqI_t hΩ g; simp [this])]; subst hΩ; rfl))
    · rw [if_neg (by have := eqI_f hΩ g; simp; omega)] at he
      exact ⟨i + 1, ⟨by omega, he⟩, by omega, Sbs.mk rfl rfl ⟨rfl, rfl, incI hΩ (by omega), trivial⟩⟩
  · replace h := geI hΩ h
    exact .of (congrArg i64 (by rw [he, List.drop_of_length_le (by omega)]; rfl))
theorem lessL_at {l m : List Int} {i : Nat} {a b : Int} (ha : l[i]? = some a) (hb : m[i]? = some b) : lessL (l.drop i) (m.drop i) = if a = b then lessL (l.drop (i + 1)) (m.drop (i + 1)) else decide (a < b) := by
  obtain ⟨h1, h2⟩ := List.getElem?_eq_some_iff.1 ha
  obtain ⟨h3, h4⟩ := List.getElem?_eq_some_iff.1 hb
  rw [List.drop_eq_getElem_cons h1, List.drop_eq_getElem_cons h3, h2, h4, lessL]
theorem c_l13Less (l m : List Int) (hl : l.length ≤ 1048576) (hm : l.length ≤ m.length) : PCtr PP n_spec_l13Less [.sl false 1 (l.map i64), .sl false 1 (m.map i64)] (boo (lessL l m)) := by
  obtain ⟨Ω, hΩ⟩ : ∃ Ω, Ω = std := ⟨_, rfl⟩
  obtain ⟨r, hr⟩ : ∃ r, r = lessL l m := ⟨_, rfl⟩
  rw [← hr]
  obtain ⟨xs, hxs⟩ : ∃ xs, xs = l.map i64 := ⟨_, rfl⟩
  obtain ⟨ys, hys⟩ : ∃ ys, ys = m.map i64 := ⟨_, rfl⟩
  have hlen : xs.length = l.length := by rw [hxs, List.length_map]
  rw [← hxs, ← hys]
  have htab := tab
  have hmo := hmo
  refine PCtr.walk tab hΩ fn_spec_l13Less rfl ?_
  generalize PP = P at *
  cbv
  refine loopX htab hΩ (fun i : Nat => ⟨[(0, .sl false 1 xs), (1, .sl false 1 ys), (5, .sc (.int .i64 (Ω.int i)))], 30, []⟩) (fun i => i ≤ l.length ∧ r = lessL (l.drop i) (m.drop i)) (fun i => l.length - i) 0
    ⟨Nat.zero_le _, hr⟩ (Sbs.mk rfl rfl ⟨rfl, rfl, zeroI hΩ, trivial⟩) ?_
  rintro i ⟨hi, he⟩
  cbv
  refine br (fun h => ?_) (fun h => ?_) <;> cbv
  · replace h := ltI hΩ h
    obtain ⟨a, ha⟩ := at_of (cs := l) (by omega : i < l.length)
    obtain ⟨b, hb⟩ := at_of (cs := m) (by omega : i < m.length)
    rw [lessL_at ha hb] at he
    refine ⟨VC_drawn htab hΩ hmo (by kernel_rfl) ?_⟩
    cbv
    refine ⟨⟨nnI hΩ⟩, _, rdI hΩ hxs ha, ?_⟩
    cbv
    refine ⟨⟨nnI hΩ⟩, _, rdI hΩ hys hb, ?_⟩
    cbv
    refine br (fun g => ?_) (fun g => ?_) <;> cbv
    · rw [if_neg (neI_t hΩ g)] at he
      refine ⟨VC_drawn htab hΩ hmo (by kernel_rfl) ?_⟩
      cbv
      refine ⟨⟨nnI hΩ⟩, _, rdI hΩ hxs ha, ?_⟩
      cbv
      refine ⟨⟨nnI hΩ⟩, _, rdI hΩ hys hb, ?_⟩
      cbv
      exact .of (congrArg boo (by rw [he]; subst hΩ; rfl))
    · rw [if_pos (neI_f hΩ g)] at he
      exact ⟨i + 1, ⟨by omega, he⟩, by omega, Sbs.mk rfl rfl ⟨rfl, rfl, incI hΩ (by omega), trivial⟩⟩
  · replace h := geI hΩ h
    exact .of (congrArg boo (by rw [he, List.drop_of_length_le (by omega)]; cases List.drop i m <;> rfl))
/-- A row of n numbers. -/
def mkR (n : Nat) (f : Nat → Int) : List A := (List.range n).map fun q => i64 (f q)
theorem mkR_len (n : Nat) (f : Nat → Int) : (mkR n f).length = n := by simp [mkR]
theorem mkR_get {n : Nat} (f : Nat → Int) {q : Nat} (h : q < n) : (mkR n f)[q]? = some (i64 (f q)) := by simp [mkR, h]
theorem mkR_ext {n : Nat} {f g : Nat → Int} (h : ∀ q, q < n → f q = g q) : mkR n f = mkR n g := by
  unfold mkR
  refine List.map_congr_left fun q hq => ?_
  rw [h q (List.mem_range.1 hq)]
theorem mkR_set {n i : Nat} {f g : Nat → Int} {v : Int} (h1 : ∀ q, q < n → q ≠ i → f q = g q) (h2 : i < n → g i = v) : (mkR n f).set i (i64 v) = mkR n g := by
  refine List.ext_getElem? fun q => ?_
  by_cases hq : q < n
  · rw [mkR_get g hq, List.getElem?_set]
    by_cases hqi : i = q
    · subst hqi
      rw [if_pos rfl, if_pos (by rw [mkR_len]; exact hq), h2 hq]
    · rw [if_neg hqi, mkR_get f hq, h1 q hq (Ne.symm hqi)]
  · rw [List.getElem?_eq_none (by rw [List.length_set, mkR_len]; omega), List.getElem?_eq_none (by rw [mkR_len]; omega)]
theorem mkR_na (n : Nat) (f : Nat → Int) : ∀ y ∈ mkR n f, vStore.isAggA y = false := fun y hy => by
  obtain ⟨q, _, rfl⟩ := List.mem_map.1 hy
  rfl
theorem mkR_rep (n : Nat) : List.replicate n (i64 0) = mkR n fun _ => 0 := by
  refine List.ext_getElem? fun q => ?_
  by_cases hq : q < n
  · rw [mkR_get _ hq]; simp [hq]
  · rw [List.getElem?_eq_none (by simp; omega), List.getElem?_eq_none (by rw [mkR_len]; omega)]
theorem mkR_map (s : List Int) (f : Int → Int) : (s.map f).map i64 = mkR s.length fun q => f (s.getD q 0) := by
  refine List.ext_getElem? fun q => ?_
  by_cases hq : q < s.length
  · rw [mkR_get _ hq]; simp [hq]
  · rw [List.getElem?_eq_none (by simp; omega), List.getElem?_eq_none (by rw [mkR_len]; omega)]
/-- What stands for the i-th in the middle of a round, where the first k have been looked at. -/
def curF (B : Int → Bool) (L : Int → Int → Bool) (s : List Int) (m i k : Nat) : Int :=
  if farV B L s m (s.getD i 0) < 0 ∧ (s.take k).any (fun j => decide (farV B L s m j = m + 1) && L j (s.getD i 0)) = true then m + 2 else farV B L s m (s.getD i 0)
def cellF (B : Int → Bool) (L : Int → Int → Bool) (s : List Int) (m i k q : Nat) : Int :=
  if q < i then farV B L s (m + 1) (s.getD q 0) else if q = i then curF B L s m i k else farV B L s m (s.getD q 0)
theorem farV_rise (B : Int → Bool) (L : Int → Int → Bool) (s : List Int) (m : Nat) (c : Int) : farV B L s (m + 1) c = m + 1 ↔ farV B L s m c = m + 1 := by
  show (if farV B L s m c < 0 ∧ _ then ((m : Int) + 2) else farV B L s m c) = _ ↔ _
  split
  · rename_i h
    constructor
    · intro h'; omega
    · intro h'; omega
  · exact Iff.rfl
theorem curF_succ {B : Int → Bool} {L : Int → Int → Bool} {s : List Int} {m i k : Nat} {c d : Int} (hc : s[k]? = some c) (hd : s[i]? = some d) :
    curF B L s m i (k + 1) = if curF B L s m i k < 0 ∧ cellF B L s m i k k = m + 1 ∧ L c d = true then ((m : Int) + 2) else curF B L s m i k := by
  have hc' : s.getD k 0 = c := by rw [List.getD_eq_getElem?_getD, hc]; rfl
  have hd' : s.getD i 0 = d := by rw [List.getD_eq_getElem?_getD, hd]; rfl
  have hany : (s.take (k + 1)).any (fun j => decide (farV B L s m j = m + 1) && L j d) = ((s.take k).any (fun j => decide (farV B L s m j = m + 1) && L j d) || (decide (farV B L s m c = m + 1) && L c d)) := by
    rw [List.take_add_one, hc, List.any_append]
    simp
  unfold cellF curF
  rw [hd', hany, hc']
  generalize (s.take k).any (fun j => decide (farV B L s m j = m + 1) && L j d) = an
  have hr := farV_rise B L s m c
  by_cases hC : farV B L s m d < 0
  · cases an with
    | true =>
      simp only [hC, Bool.true_or, and_self, if_true]
      rw [if_neg (fun h => by have := h.1; omega)]
    | false =>
      have hcell : ((if k < i then farV B L s (m + 1) c else if k = i then farV B L s m d else farV B L s m c) = m + 1) ↔ farV B L s m c = m + 1 := by
        by_cases h1 : k < i
        · rw [if_pos h1]; exact hr
        · rw [if_neg h1]
          by_cases h2 : k = i
          · subst h2
            rw [hc] at hd
            obtain rfl := Option.some.inj hd
            rw [if_pos rfl]
          · rw [if_neg h2]
      simp only [Bool.false_or, Bool.false_eq_true, and_false, if_false]
      by_cases h3 : farV B L s m c = m + 1
      · simp only [hcell.2 h3]
        simp [hC, h3]
      · rw [if_neg (fun h => by
          have := h.2
          rw [Bool.and_eq_true, decide_eq_true_eq] at this
          exact h3 this.1), if_neg (fun h => h3 (hcell.1 h.2.1))]
  · simp [hC]
theorem curF_zero (B : Int → Bool) (L : Int → Int → Bool) (s : List Int) (m i : Nat) : curF B L s m i 0 = farV B L s m (s.getD i 0) := by simp [curF]
theorem curF_all (B : Int → Bool) (L : Int → Int → Bool) (s : List Int) (m i : Nat) : curF B L s m i s.length = farV B L s (m + 1) (s.getD i 0) := by
  unfold curF
  rw [List.take_length]
  rfl
/-- How far all of a set are. -/
def farL (l : List Pck) (s : List Int) (a : List Trm) : List Int := s.map (farV (asksB l a) (leaB l) s s.length)


set_option maxHeartbeats 1000000 in
theorem c_l13Far (l : List Pck) (s : List Int) (a : List Trm) (hl : l.length ≤ 1048576) (hs : s.length ≤ 1048576) (ha : a.length ≤ 1048576) (ho : ∀ o ∈ l, o.Small) (hk : ∀ k ∈ s, inB k 0 ((l.length : Int) - 1) = true) :
    PCtr PP n_spec_l13Far [encP l, .sl false 1 (s.map i64), .sl false 7 (a.map Trm.enc)] (ints (farL l s a)) := by
  obtain ⟨Ω, hΩ⟩ : ∃ Ω, Ω = std := ⟨_, rfl⟩
  have hca : ∀ k ∈ s, PCtr PP n_spec_l13Asks [encP l, .sl false 7 (a.map Trm.enc), i64 k] (boo (asksB l a k)) := fun k h => c_l13Asks l a k hl ha ho (hk k h)
  have hcl : ∀ j ∈ s, ∀ k ∈ s, PCtr PP n_spec_l13Leans [encP l, i64 j, i64 k] (boo (leaB l j k)) := fun j hj k hk' => c_l13Leans l j k hl ho (hk j hj) (hk k hk')
  obtain ⟨B, hB⟩ : ∃ B, B = asksB l a := ⟨_, rfl⟩
  obtain ⟨L, hL⟩ : ∃ L, L = leaB l := ⟨_, rfl⟩
  unfold farL ints
  rw [← hB] at hca ⊢
  rw [← hL] at hcl ⊢
  obtain ⟨xs, hxs⟩ : ∃ xs, xs = s.map i64 := ⟨_, rfl⟩
  have hlen : xs.length = s.length := by rw [hxs, List.length_map]
  obtain ⟨cs, hcs⟩ : ∃ cs, cs = l.map (Pck.enc false) := ⟨_, rfl⟩
  obtain ⟨zs, hzs⟩ : ∃ zs, zs = a.map Trm.enc := ⟨_, rfl⟩
  unfold encP at *
  rw [← hcs, ← hzs] at hca
  rw [← hcs] at hcl
  rw [← hcs, ← hxs, ← hzs]
  have htab := tab
  have hmo := hmo
  obtain ⟨n, hn⟩ : ∃ n, n = s.length := ⟨_, rfl⟩
  obtain ⟨V, hV⟩ : ∃ V : Nat → Nat → Int, V = fun m q => farV B L s m (s.getD q 0) := ⟨_, rfl⟩
  have hat : ∀ q k, s[q]? = some k → s.getD q 0 = k := fun q k h => by rw [List.getD_eq_getElem?_getD, h]; rfl
  obtain ⟨Z, hZ⟩ : ∃ Z, Z = mkR n (V n) := ⟨_, rfl⟩
  have hZl : Z.length = n := by rw [hZ]; exact mkR_len _ _
  have hR : (s.map (farV B L s s.length)).map i64 = Z := by rw [mkR_map, hZ, hV, hn]
  rw [hR]
  have hat0 : ∀ q, q < n → ∃ k, s[q]? = some k ∧ s.getD q 0 = k := fun q h => by
    obtain ⟨k, hk⟩ := at_of (cs := s) (show q < s.length by omega)
    exact ⟨k, hk, hat q k hk⟩
  have hV0 : ∀ q k, s[q]? = some k → V 0 q = if B k then 1 else -1 := fun q k h => by rw [hV]; simp only; rw [hat q k h]; rfl
  obtain ⟨RA, hRA⟩ : ∃ RA : Nat → List A, RA = fun i => mkR n fun q => if q < i then V 0 q else 0 := ⟨_, rfl⟩
  obtain ⟨RB, hRB⟩ : ∃ RB : Nat → List A, RB = fun i => mkR n fun q => if q = i then -1 else if q < i then V 0 q else 0 := ⟨_, rfl⟩
  have hRA0 : List.replicate n (i64 0) = RA 0 := by rw [mkR_rep, hRA]; exact mkR_ext fun q _ => by simp
  have hRAl : ∀ i, (RA i).length = n := fun i => by rw [hRA]; exact mkR_len _ _
  have hRBl : ∀ i, (RB i).length = n := fun i => by rw [hRB]; exact mkR_len _ _
  have hRAn : ∀ i, ∀ y ∈ RA i, vStore.isAggA y = false := fun i => by rw [hRA]; exact mkR_na _ _
  have hRBn : ∀ i, ∀ y ∈ RB i, vStore.isAggA y = false := fun i => by rw [hRB]; exact mkR_na _ _
  have hRAs : ∀ i, (RA i).set i (i64 (-1)) = RB i := fun i => by
    rw [hRA, hRB]
    exact mkR_set (fun q _ h => by simp [h]) fun _ => by simp
  have hRBt : ∀ i k, s[i]? = some k → B k = true → (RB i).set i (i64 1) = RA (i + 1) := fun i k h hb => by
    rw [hRA, hRB]
    refine mkR_set (fun q _ h => ?_) fun _ => ?_
    · rw [if_neg h]
      by_cases hq : q < i
      · rw [if_pos hq, if_pos (by omega)]
      · rw [if_neg hq, if_neg (by omega)]
    · rw [if_pos (by omega), hV0 i k h, if_pos hb]
  have hRBf : ∀ i k, s[i]? = some k → B k = false → RB i = RA (i + 1) := fun i k h hb => by
    rw [hRA, hRB]
    refine mkR_ext fun q _ => ?_
    by_cases hq : q = i
    · subst hq
      rw [if_pos rfl, if_pos (by omega), hV0 q k h, if_neg (by simp [hb])]
    · rw [if_neg hq]
      by_cases hq : q < i
      · rw [if_pos hq, if_pos (by omega)]
      · rw [if_neg hq, if_neg (by omega)]
  have hRAe : RA n = mkR n (V 0) := by rw [hRA]; exact mkR_ext fun q h => by rw [if_pos h]
  have hlo : Ω.nat (Ω.int (Ω.len xs)) = n := by subst hΩ; show ((xs.length : Int)).toNat = _; rw [hlen, hn]; rfl
  have hlo2 : (Ω.int (Ω.len xs)) = Ω.int n := by subst hΩ; show ((xs.length : Nat) : Int) = _; rw [hlen, hn]; rfl
  have hlo3 : (Ω.int (Ω.len xs)).toNat = n := by subst hΩ; show ((xs.length : Int)).toNat = _; rw [hlen, hn]; rfl
  have hrep : Ω.rep (Ω.nat (Ω.int (Ω.len xs))) (i64 0) = RA 0 := by rw [← hRA0, hlo]; subst hΩ; rfl
  refine PCtr.walk tab hΩ fn_spec_l13Far rfl ?_
  generalize PP = P at *
  cbv
  refine ⟨⟨rfl, nnI hΩ, by show 8 * (Ω.int (Ω.len xs)).toNat ≤ _; rw [hlo3]; omega, by show (Ω.int (Ω.len xs)).toNat ≤ maxLen; rw [hlo3]; unfold maxLen; omega⟩, ?_⟩
  refine loopX htab hΩ (fun i : Nat => ⟨[(0, .sl false 8 cs), (1, .sl false 1 xs), (2, .sl false 7 zs), (7, .vw 0 0 n), (8, i64 (Ω.int i))], 83, [some ⟨1, RA i, false⟩]⟩) (fun i => i ≤ n) (fun i => n - i) 0 (Nat.zero_le _)
    (Sbs.mk rfl (congrArg (fun y => [some (Row.mk 1 y false)]) hrep) ⟨rfl, rfl, rfl, congrArg (A.vw 0 0) hlo, zeroI hΩ, trivial⟩) ?_
  intro i hi
  have hRAli := hRAl i
  have hRBli := hRBl i
  have hRAni := hRAn i
  have hRBni := hRBn i
  have hse : Ω.set (RA i) (Ω.plus 0 (Ω.nat (Ω.int i))) (i64 (-1)) = RB i := by
    rw [← hRAs i]
    subst hΩ
    show (RA i).set (0 + i) _ = _
    rw [Nat.zero_add]
  cbv
  refine br (fun h => ?_) (fun h => ?_) <;> cbv
  · replace h := ltI hΩ h
    obtain ⟨k, hk'⟩ := at_of (cs := s) (show i < s.length by omega)
    have hset : B k = true → Ω.set (Ω.set (RA i) (Ω.plus 0 (Ω.nat (Ω.int i))) (i64 (-1))) (Ω.plus 0 (Ω.nat (Ω.int i))) (i64 1) = RA (i + 1) := fun hb => by
      rw [hse, ← hRBt i k hk' hb]
      subst hΩ
      show (RB i).set (0 + i) _ = _
      rw [Nat.zero_add]
    refine ⟨⟨ixI hΩ (by omega)⟩, ⟨by subst hΩ; show 0 + i < (RA i).length; omega, hRAni⟩, ?_⟩
    refine ⟨⟨nnI hΩ⟩, _, rdI hΩ hxs hk', ?_⟩
    cbv
    refine call_pure hΩ 3 (hca k (List.mem_of_getElem? hk')) rfl (fits _) rfl rfl ?_
    cbv
    refine br (fun hb => ?_) (fun hb => ?_) <;> cbv
    · refine ⟨⟨ixI hΩ (by omega)⟩, ⟨by
          show Ω.plus 0 (Ω.nat (Ω.int i)) < (Ω.set (RA i) (Ω.plus 0 (Ω.nat (Ω.int i))) (i64 (-1))).length
          rw [hse]
          subst hΩ
          show 0 + i < (RB i).length
          omega, by
          show ∀ y ∈ Ω.set (RA i) (Ω.plus 0 (Ω.nat (Ω.int i))) (i64 (-1)), vStore.isAggA y = false
          rw [hse]; exact hRBni⟩, i + 1, by omega, by omega, Sbs.mk rfl (congrArg (fun y => [some (Row.mk 1 y false)]) (hset hb)) ⟨rfl, rfl, rfl, rfl, incI hΩ (by omega), trivial⟩⟩
    · exact ⟨i + 1, by omega, by omega, Sbs.mk rfl (congrArg (fun y => [some (Row.mk 1 y false)]) (hse.trans (hRBf i k hk' hb))) ⟨rfl, rfl, rfl, rfl, incI hΩ (by omega), trivial⟩⟩
  have hin : n = i := by have := geI hΩ h; omega
  subst hin
  clear hRAl hRBl hRAn hRBn hRAs hRBt hRBf hRA0 hRB hRA hse hRAli hRBli hRAni hRBni hca
  obtain ⟨RV, hRV⟩ : ∃ RV : Nat → List A, RV = fun m => mkR n (V m) := ⟨_, rfl⟩
  have hRV0 : RA n = RV 0 := by rw [hRAe, hRV]
  have hRVn : RV n = Z := by rw [hRV, hZ]
  obtain ⟨RC, hRC⟩ : ∃ RC : Nat → Nat → List A, RC = fun m i => mkR n fun q => if q < i then V (m + 1) q else V m q := ⟨_, rfl⟩
  obtain ⟨RD, hRD⟩ : ∃ RD : Nat → Nat → Nat → List A, RD = fun m i k => mkR n (cellF B L s m i k) := ⟨_, rfl⟩
  have hC0 : ∀ m, RV m = RC m 0 := fun m => by rw [hRV, hRC]; exact mkR_ext fun q _ => by simp
  have hCn : ∀ m, RC m n = RV (m + 1) := fun m => by rw [hRV, hRC]; exact mkR_ext fun q hq => by rw [if_pos hq]
  have hD0 : ∀ m i, RC m i = RD m i 0 := fun m i => by
    rw [hRC, hRD, hV]
    refine mkR_ext fun q _ => ?_
    unfold cellF
    by_cases h1 : q < i
    · rw [if_pos h1, if_pos h1]
    · rw [if_neg h1, if_neg h1]
      by_cases h2 : q = i
      · subst h2; rw [if_pos rfl, curF_zero]
      · rw [if_neg h2]
  have hDn : ∀ m i, RD m i n = RC m (i + 1) := fun m i => by
    rw [hRC, hRD, hV, hn]
    refine mkR_ext fun q _ => ?_
    unfold cellF
    by_cases h1 : q < i
    · rw [if_pos h1, if_pos (by omega)]
    · rw [if_neg h1]
      by_cases h2 : q = i
      · subst h2; rw [if_pos rfl, if_pos (by omega), curF_all]
      · rw [if_neg h2, if_neg (by omega)]
  have hDat : ∀ m i k q, q < n → (RD m i k)[q]? = some (i64 (cellF B L s m i k q)) := fun m i k q h => by rw [hRD]; exact mkR_get _ h
  have hDl : ∀ m i k, (RD m i k).length = n := fun m i k => by rw [hRD]; exact mkR_len _ _
  have hDna : ∀ m i k, ∀ y ∈ RD m i k, vStore.isAggA y = false := fun m i k => by rw [hRD]; exact mkR_na _ _
  have hDyes : ∀ m i k c d, s[k]? = some c → s[i]? = some d → cellF B L s m i k i < 0 → cellF B L s m i k k = m + 1 → L c d = true → (RD m i k).set i (i64 (m + 2)) = RD m i (k + 1) := fun m i k c d h1 h2 h3 h4 h5 => by
    rw [hRD]
    have e : cellF B L s m i k i = curF B L s m i k := by unfold cellF; rw [if_neg (by omega), if_pos rfl]
    refine mkR_set (fun q _ hq => ?_) fun _ => ?_
    · unfold cellF; rw [if_neg hq, if_neg hq]
    · have : cellF B L s m i (k + 1) i = curF B L s m i (k + 1) := by unfold cellF; rw [if_neg (by omega), if_pos rfl]
      rw [this, curF_succ h1 h2, if_pos ⟨by rw [← e]; exact h3, h4, h5⟩]
  have hDno : ∀ m i k c d, s[k]? = some c → s[i]? = some d → ¬ (cellF B L s m i k i < 0 ∧ cellF B L s m i k k = m + 1 ∧ L c d = true) → RD m i k = RD m i (k + 1) := fun m i k c d h1 h2 h3 => by
    rw [hRD]
    have e : cellF B L s m i k i = curF B L s m i k := by unfold cellF; rw [if_neg (by omega), if_pos rfl]
    refine mkR_ext fun q _ => ?_
    unfold cellF
    by_cases h4 : q < i
    · rw [if_pos h4, if_pos h4]
    · rw [if_neg h4, if_neg h4]
      by_cases h5 : q = i
      · rw [if_pos h5, if_pos h5, curF_succ h1 h2, if_neg (fun h => h3 ⟨by rw [e]; exact h.1, h.2⟩)]
      · rw [if_neg h5, if_neg h5]
  obtain ⟨kf, hkf⟩ : ∃ kf : Nat → Int, kf = fun (m : Nat) => (m : Int) + 1 := ⟨_, rfl⟩
  have hkf0 : kf 0 = 1 := by rw [hkf]; rfl
  have hkfs : ∀ m, m < 2000000 → Ω.ar .add .i64 (kf m) 1 = kf (m + 1) := fun m h => by
    rw [hkf]
    subst hΩ
    show IntKind.i64.wrap ((m : Int) + 1 + 1) = _
    rw [wrap64 (by omega) (by omega)]
    simp only
    omega
  obtain ⟨Cf, hCf⟩ : ∃ Cf : Nat → Nat → Nat → Nat → Int, Cf = fun m i k q => cellF B L s m i k q := ⟨_, rfl⟩
  have hDyes : ∀ m i k c d, s[k]? = some c → s[i]? = some d → Cf m i k i < 0 → Cf m i k k = kf m → L c d = true → (RD m i k).set i (i64 (kf (m + 1))) = RD m i (k + 1) := fun m i k c d h1 h2 h3 h4 h5 => by
    rw [hCf] at h3 h4
    rw [hkf] at h4
    have := hDyes m i k c d h1 h2 h3 h4 h5
    rw [← this, hkf]
    simp only
    congr 2
  have hDno : ∀ m i k c d, s[k]? = some c → s[i]? = some d → ¬ (Cf m i k i < 0 ∧ Cf m i k k = kf m ∧ L c d = true) → RD m i k = RD m i (k + 1) := fun m i k c d h1 h2 h3 => by
    rw [hCf, hkf] at h3
    exact hDno m i k c d h1 h2 h3
  have hDat : ∀ m i k q, q < n → (RD m i k)[q]? = some (i64 (Cf m i k q)) := fun m i k q h => by rw [hCf]; exact hDat m i k q h
  have hkfle : ∀ m, Ω.cmp .leq (kf m) (Ω.int (Ω.len xs)) = true → m < n := fun m h => by
    have h1 := leI_t hΩ h
    rw [hkf, hlo2] at h1
    subst hΩ
    have h2 : (m : Int) + 1 ≤ ((n : Nat) : Int) := h1
    omega
  have hkfgt : ∀ m, Ω.cmp .leq (kf m) (Ω.int (Ω.len xs)) = false → n ≤ m := fun m h => by
    have h1 := leI_f hΩ h
    rw [hkf, hlo2] at h1
    subst hΩ
    have h2 : ((n : Nat) : Int) < (m : Int) + 1 := h1
    omega
  clear hCf hkf hRD hRC hRV hV hV0 hR hZ hRAe
  refine loopX htab hΩ (fun m : Nat => ⟨[(0, .sl false 8 cs), (1, .sl false 1 xs), (2, .sl false 7 zs), (7, .vw 0 0 n), (9, i64 (kf m))], 83, [some ⟨1, RV m, false⟩]⟩) (fun m => m ≤ n) (fun m => n - m) 0 (Nat.zero_le _)
    (Sbs.mk rfl (congrArg (fun y => [some (Row.mk 1 y false)]) hRV0) ⟨rfl, rfl, rfl, rfl, congrArg i64 hkf0.symm, trivial⟩) ?_
  intro m hm
  have hC0 := hC0 m
  have hCn := hCn m
  have hD0 := hD0 m
  have hDn := hDn m
  have hDat := hDat m
  have hDl := hDl m
  have hDna := hDna m
  have hDyes := hDyes m
  have hDno := hDno m
  have hkfle := hkfle m
  have hkfgt := hkfgt m
  have hkfs := hkfs m (by omega)
  cbv
  refine br (fun h => ?_) (fun h => ?_) <;> cbv
  · replace h := hkfle h
    refine loopX htab hΩ (fun i : Nat => ⟨[(0, .sl false 8 cs), (1, .sl false 1 xs), (2, .sl false 7 zs), (7, .vw 0 0 n), (9, i64 (kf m)), (10, i64 (Ω.int i))], 83, [some ⟨1, RC m i, false⟩]⟩) (fun i => i ≤ n) (fun i => n - i) 0 (Nat.zero_le _)
      (Sbs.mk rfl (congrArg (fun y => [some (Row.mk 1 y false)]) hC0) ⟨rfl, rfl, rfl, rfl, rfl, zeroI hΩ, trivial⟩) ?_
    intro i hi
    have hD0 := hD0 i
    have hDn := hDn i
    have hDat := hDat i
    have hDl := hDl i
    have hDna := hDna i
    have hDyes := hDyes i
    have hDno := hDno i
    cbv
    refine br (fun h1 => ?_) (fun h1 => ?_) <;> cbv
    · replace h1 := ltI hΩ h1
      obtain ⟨d, hd⟩ := at_of (cs := s) (show i < s.length by omega)
      have hdm := List.mem_of_getElem? hd
      refine loopX htab hΩ (fun k : Nat => ⟨[(0, .sl false 8 cs), (1, .sl false 1 xs), (2, .sl false 7 zs), (7, .vw 0 0 n), (9, i64 (kf m)), (10, i64 (Ω.int i)), (11, i64 (Ω.int k))], 83, [some ⟨1, RD m i k, false⟩]⟩) (fun k => k ≤ n) (fun k => n - k) 0 (Nat.zero_le _)
        (Sbs.mk rfl (congrArg (fun y => [some (Row.mk 1 y false)]) hD0) ⟨rfl, rfl, rfl, rfl, rfl, rfl, zeroI hΩ, trivial⟩) ?_
      intro k hk1
      have hDat := hDat k
      have hDl := hDl k
      have hDna := hDna k
      have hDyes := hDyes k
      have hDno := hDno k
      have hr1 := hDat i (by omega)
      have hr2 := hDat k
      generalize Cf m i k i = p1 at *
      generalize Cf m i k k = p2 at *
      cbv
      refine br (fun h2 => ?_) (fun h2 => ?_) <;> cbv
      · replace h2 := ltI hΩ h2
        obtain ⟨c, hc⟩ := at_of (cs := s) (show k < s.length by omega)
        have hcm := List.mem_of_getElem? hc
        have hr2 := hr2 (by omega)
        have hDyes := hDyes c d hc hd
        have hDno := hDno c d hc hd
        have hlcd := hcl c hcm d hdm
        refine ⟨VC_pl htab hΩ hmo (.qs [0, 1, 2] (.s 3 (.qs [4, 5, 6, 7, 8, 10] (.s 9 (.q 11 (.s 12 (.qs [13, 14, 15, 16, 17, 18, 19, 20, 21, 22] (.s 23 (.s 24 .fin))))))))) (by kernel_rfl) ?_⟩
        cbv
        refine ⟨⟨ixI hΩ (by omega)⟩, _, atI hΩ hr1, ?_⟩
        cbv
        refine br (fun g1 => ?_) (fun g1 => ?_)
        · cbv
          refine ⟨⟨ixI hΩ (by omega)⟩, _, atI hΩ hr2, ?_⟩
          cbv
          refine br (fun g2 => ?_) (fun g2 => ?_)
          · cbv
            refine ⟨⟨nnI hΩ⟩, _, rdI hΩ hxs hc, ?_⟩
            cbv
            refine ⟨⟨nnI hΩ⟩, _, rdI hΩ hxs hd, ?_⟩
            cbv
            refine call_pure hΩ 3 hlcd rfl (fits _) rfl rfl ?_
            cbv
            refine br (fun g3 => ?_) (fun g3 => ?_) <;> cbv
            · have y1 : p1 < 0 := ltI_t hΩ g1
              have y2 : p2 = kf m := by subst hΩ; exact eq_t (show std.cmp .eql p2 (kf m) = true by simpa [std] using g2)
              have y3 : L c d = true := by subst hΩ; simpa [std] using g3
              have hset : Ω.set (RD m i k) (Ω.plus 0 (Ω.nat (Ω.int i))) (i64 (Ω.ar .add .i64 (kf m) 1)) = RD m i (k + 1) := by
                rw [hkfs, ← hDyes y1 y2 y3]
                subst hΩ
                show (RD m i k).set (0 + i) _ = _
                rw [Nat.zero_add]
              refine ⟨⟨ixI hΩ (by omega)⟩, ⟨by subst hΩ; show 0 + i < (RD m i k).length; omega, hDna⟩, k + 1, by omega, by omega, Sbs.mk rfl (congrArg (fun y => [some (Row.mk 1 y false)]) hset) ⟨rfl, rfl, rfl, rfl, rfl, rfl, incI hΩ (by omega), trivial⟩⟩
            · have y3 : L c d = false := by subst hΩ; simpa [std] using g3
              have hno := hDno fun h => by rw [y3] at h; cases h.2.2
              exact ⟨k + 1, by omega, by omega, Sbs.mk rfl (congrArg (fun y => [some (Row.mk 1 y false)]) hno) ⟨rfl, rfl, rfl, rfl, rfl, rfl, incI hΩ (by omega), trivial⟩⟩
          · cbv
            have y2 : p2 ≠ kf m := by subst hΩ; exact eq_f (show std.cmp .eql p2 (kf m) = false by simpa [std] using g2)
            have hno := hDno fun h => y2 h.2.1
            exact ⟨k + 1, by omega, by omega, Sbs.mk rfl (congrArg (fun y => [some (Row.mk 1 y false)]) hno) ⟨rfl, rfl, rfl, rfl, rfl, rfl, incI hΩ (by omega), trivial⟩⟩
        · cbv
          have y1 : ¬ p1 < 0 := Int.not_lt.2 (ltI_f hΩ g1)
          have hno := hDno fun h => y1 h.1
          exact ⟨k + 1, by omega, by omega, Sbs.mk rfl (congrArg (fun y => [some (Row.mk 1 y false)]) hno) ⟨rfl, rfl, rfl, rfl, rfl, rfl, incI hΩ (by omega), trivial⟩⟩
      · have hkn : k = n := by have := geI hΩ h2; omega
        rw [hkn, hDn]
        refine ⟨i + 1, by omega, by omega, Sbs.mk rfl rfl ⟨rfl, rfl, rfl, rfl, rfl, incI hΩ (by omega), trivial⟩⟩
    · have hkn : i = n := by have := geI hΩ h1; omega
      rw [hkn, hCn]
      exact ⟨m + 1, by omega, by omega, Sbs.mk rfl rfl ⟨rfl, rfl, rfl, rfl, congrArg i64 hkfs, trivial⟩⟩
  · have hmn : m = n := by have := hkfgt h; omega
    rw [hmn, hRVn]
    refine ⟨⟨rfl, by show n ≤ Z.length; omega⟩, .of (congrArg (A.sl true 1) ?_)⟩
    subst hΩ
    exact List.take_of_length_le (by omega)
end Go.Proofs.YtomfmdfamlmfiaaGreat

/- The reference's least way, walked (it calls itself). Plain theorems. -/
set_option linter.unusedVariables false
set_option linter.unusedSimpArgs false
namespace Go.Proofs.YtomfmdfamlmfiaaGreat
open Go Go.Fw
set_option maxRecDepth 100000
theorem idxFrom_mem {v : Int} : ∀ {l : List Int} (i : Nat), v ∈ l → ∃ m, idxFrom (fun c => v == c) i l = ((i + m : Nat) : Int) ∧ l[m]? = some v
  | [], _, h => by simp at h
  | x :: l, i, h => by
    by_cases hx : v = x
    · subst hx
      exact ⟨0, by simp [idxFrom], rfl⟩
    · obtain ⟨m, h1, h2⟩ := idxFrom_mem (i + 1) (by simpa [hx] using h)
      refine ⟨m + 1, ?_, by simpa using h2⟩
      simp only [idxFrom]
      rw [if_neg (by simpa using hx), h1]
      congr 1
      omega
theorem idx_mem {v : Int} {l : List Int} (h : v ∈ l) : 0 ≤ idx (fun c => v == c) l ∧ l[(idx (fun c => v == c) l).toNat]? = some v := by
  obtain ⟨m, h1, h2⟩ := idxFrom_mem 0 h
  unfold idx
  rw [h1]
  refine ⟨Int.natCast_nonneg _, ?_⟩
  rw [Nat.zero_add]
  exact h2
theorem ints_okW (c : List Int) : (∀ y ∈ c.map i64, noOwn y = true) ∧ ∀ x ∈ flat (c.map i64), okCell x = true :=
  ⟨fun y h => by obtain ⟨k, _, rfl⟩ := List.mem_map.1 h; rfl, fun x h => by
    obtain ⟨y, hy, hx⟩ := List.mem_flatMap.1 h
    obtain ⟨k, _, rfl⟩ := List.mem_map.1 hy
    rw [show x = i64 k from List.mem_singleton.1 hx]; rfl⟩
theorem bestW_snoc (p : Int → Bool) (W : Int → List Int) (c : Int) : ∀ (js : List Int) (b : List Int), bestW p W b (js ++ [c]) = if p c then (if (bestW p W b js).length = 0 ∨ lessL (W c) (bestW p W b js) = true then W c else bestW p W b js) else bestW p W b js
  | [], b => rfl
  | j :: js, b => by
    simp only [List.cons_append, bestW]
    exact bestW_snoc p W c js _
theorem c_l13Way (l : List Pck) (s : List Int) (a : List Trm) (hl : l.length ≤ 1048576) (hs : s.length ≤ 1048576) (ho : ∀ o ∈ l, o.Small) (hk : ∀ k ∈ s, inB k 0 ((l.length : Int) - 1) = true) :
    ∀ (m : Nat) (t : Int), t ∈ s → (lvD (asksB l a) (leaB l) s m t).1 = true → PCtr PP n_spec_l13Way [encP l, .sl false 1 (s.map i64), .sl false 1 ((farL l s a).map i64), i64 t] (ints (wayD (asksB l a) (leaB l) s m t)) := by
  intro m
  induction m with
  | zero =>
    intro t ht hd
    obtain ⟨Ω, hΩ⟩ : ∃ Ω, Ω = std := ⟨_, rfl⟩
    have hcp := c_l13Place s t (by omega)
    obtain ⟨hi0, hi1⟩ := idx_mem ht
    have hf : ((farL l s a).map i64)[(idx (fun c => t == c) s).toNat]? = some (i64 1) := by
      unfold farL
      rw [List.getElem?_map, List.getElem?_map, hi1]
      have := ((farV_eq (asks := asksB l a) (lea := leaB l) (set := s) (n := s.length) (k := t)).1 0 (Nat.zero_le _)).2 hd
      show some (i64 _) = _
      rw [this]; rfl
    show PCtr PP n_spec_l13Way _ (ints [t])
    obtain ⟨fs, hfs⟩ : ∃ fs, fs = (farL l s a).map i64 := ⟨_, rfl⟩
    obtain ⟨xs, hxs⟩ : ∃ xs, xs = s.map i64 := ⟨_, rfl⟩
    obtain ⟨cs, hcs⟩ : ∃ cs, cs = l.map (Pck.enc false) := ⟨_, rfl⟩
    unfold encP
    rw [← hfs, ← hxs, ← hcs]
    rw [← hfs] at hf
    rw [← hxs] at hcp
    generalize idx (fun c => t == c) s = ix at *
    have htab := tab
    refine PCtr.walk tab hΩ fn_spec_l13Way rfl ?_
    generalize PP = P at *
    cbv
    refine call_pure hΩ 3 hcp rfl (fits _) rfl rfl ?_
    cbv
    refine ⟨⟨hi0⟩, _, hf, ?_⟩
    cbv
    refine br (fun h => ?_) (fun h => absurd rfl (eqI_f hΩ h)) <;> cbv
    exact ⟨⟨rfl, Nat.le_refl 1⟩, .of (congrArg (A.sl true 1) (by subst hΩ; rfl))⟩
  | succ m ih =>
    intro t ht hd
    obtain ⟨Ω, hΩ⟩ : ∃ Ω, Ω = std := ⟨_, rfl⟩
    have hcp := c_l13Place s t (by omega)
    obtain ⟨hi0, hi1⟩ := idx_mem ht
    obtain ⟨f, hf⟩ : ∃ f : Int → Int, f = farV (asksB l a) (leaB l) s s.length := ⟨_, rfl⟩
    have hms : m + 1 < s.length := lvD_lt ht hd
    have hft : f t = (m : Int) + 2 := by
      rw [hf, ((farV_eq (asks := asksB l a) (lea := leaB l) (set := s) (n := s.length) (k := t)).1 (m + 1) (by omega)).2 hd]
      omega
    have hfc : ∀ c, f c = (m : Int) + 1 ↔ (lvD (asksB l a) (leaB l) s m c).1 = true := fun c => by
      rw [hf]
      exact (farV_eq (asks := asksB l a) (lea := leaB l) (set := s) (n := s.length) (k := c)).1 m (by omega)
    have hfl : farL l s a = s.map f := by unfold farL; rw [hf]
    have hat1 : ((farL l s a).map i64)[(idx (fun c => t == c) s).toNat]? = some (i64 (f t)) := by
      rw [hfl, List.getElem?_map, List.getElem?_map, hi1]; rfl
    have hatk : ∀ k c, s[k]? = some c → ((farL l s a).map i64)[(Ω.int k).toNat]? = some (i64 (f c)) := fun k c h => by
      rw [hfl]
      subst hΩ
      show ((s.map f).map i64)[k]? = _
      rw [List.getElem?_map, List.getElem?_map, h]; rfl
    have hcl : ∀ j ∈ s, PCtr PP n_spec_l13Leans [encP l, i64 j, i64 t] (boo (leaB l j t)) := fun j hj => c_l13Leans l j t hl ho (hk j hj) (hk t ht)
    have hft1 : f t ≠ 1 := by rw [hft]; omega
    obtain ⟨m1, hm1⟩ : ∃ m1 : Int, m1 = (m : Int) + 1 := ⟨_, rfl⟩
    have hsub : Ω.ar .sub .i64 (f t) 1 = m1 := by
      rw [hft, hm1]
      subst hΩ
      show IntKind.i64.wrap ((m : Int) + 2 - 1) = _
      rw [wrap64 (by omega) (by omega)]
      omega
    rw [← hm1] at hfc
    obtain ⟨W, hW⟩ : ∃ W : Int → List Int, W = wayD (asksB l a) (leaB l) s m := ⟨_, rfl⟩
    obtain ⟨D, hD⟩ : ∃ D : Int → Bool, D = fun j => (lvD (asksB l a) (leaB l) s m j).1 := ⟨_, rfl⟩
    have hWl : ∀ j, D j = true → (W j).length = m + 1 := fun j h => by rw [hW]; rw [hD] at h; exact wayD_len h
    have ih : ∀ c ∈ s, D c = true → PCtr PP n_spec_l13Way [encP l, .sl false 1 (s.map i64), .sl false 1 ((farL l s a).map i64), i64 c] (.sl true 1 ((W c).map i64)) := fun c hc h => by rw [hW]; rw [hD] at h; exact ih c hc h
    have hfc : ∀ c, f c = m1 ↔ D c = true := fun c => by rw [hD]; exact hfc c
    obtain ⟨L, hL⟩ : ∃ L, L = leaB l := ⟨_, rfl⟩
    have hres : wayD (asksB l a) (leaB l) s (m + 1) t = bestW (fun j => D j && L j t) W [] s ++ [t] := by rw [hD, hW, hL]; rfl
    rw [← hL] at hcl
    rw [hres]
    obtain ⟨b, hb⟩ : ∃ b : Nat → List Int, b = fun k => bestW (fun j => D j && L j t) W [] (s.take k) := ⟨_, rfl⟩
    have hb0 : b 0 = [] := by rw [hb]; rfl
    have hbn : bestW (fun j => D j && L j t) W [] s = b s.length := by rw [hb]; simp only; rw [List.take_length]
    have hbs : ∀ k c, s[k]? = some c → b (k + 1) = if (D c && L c t) = true then (if (b k).length = 0 ∨ lessL (W c) (b k) = true then W c else b k) else b k := fun k c h => by
      rw [hb]
      simp only
      rw [List.take_add_one, h]
      exact bestW_snoc _ W c (s.take k) []
    have hbl : ∀ k, (b k).length = 0 ∨ (b k).length = m + 1 := fun k => by
      have hB := bestW_ok (p := fun j => D j && L j t) (W := W) (n := m) (fun j hj => hWl j (by simp at hj; exact hj.1)) (s.take k)
      by_cases h : ∃ j ∈ s.take k, (D j && L j t) = true
      · obtain ⟨j, hj, hp, e⟩ := hB.ex h
        right
        rw [hb]
        simp only
        rw [e]
        exact hWl j (by simp at hp; exact hp.1)
      · left
        rw [hb]
        simp only
        rw [hB.none fun j hj => by
          cases e : (D j && L j t) with
          | false => rfl
          | true => exact absurd ⟨j, hj, e⟩ h]
        rfl
    rw [hbn]
    have hless : ∀ (v u : List Int), v.length ≤ 1048576 → v.length ≤ u.length → PCtr PP n_spec_l13Less [.sl false 1 (v.map i64), .sl false 1 (u.map i64)] (boo (lessL v u)) := fun v u h1 h2 => c_l13Less v u h1 h2
    obtain ⟨fs, hfs⟩ : ∃ fs, fs = (farL l s a).map i64 := ⟨_, rfl⟩
    obtain ⟨xs, hxs⟩ : ∃ xs, xs = s.map i64 := ⟨_, rfl⟩
    have hlen : xs.length = s.length := by rw [hxs, List.length_map]
    obtain ⟨cs, hcs⟩ : ∃ cs, cs = l.map (Pck.enc false) := ⟨_, rfl⟩
    unfold encP ints at *
    rw [← hxs] at hcp
    rw [← hfs] at hat1 hatk
    rw [← hcs] at hcl
    rw [← hfs, ← hxs, ← hcs] at ih ⊢
    clear hm1 hft hfs hfl hcs hf hres hbn hD hW hL hb
    obtain ⟨bx, hbx⟩ : ∃ bx : Nat → List A, bx = fun k => (b k).map i64 := ⟨_, rfl⟩
    have hbx0 : bx 0 = [] := by rw [hbx]; simp only; rw [hb0]; rfl
    obtain ⟨Z, hZ⟩ : ∃ Z, Z = (b s.length ++ [t]).map i64 := ⟨_, rfl⟩
    rw [← hZ]
    generalize idx (fun c => t == c) s = ix at *
    have htab := tab
    have hmo := hmo
    refine PCtr.walk tab hΩ fn_spec_l13Way rfl ?_
    generalize PP = P at *
    cbv
    refine call_pure hΩ 3 hcp rfl (fits _) rfl rfl ?_
    cbv
    refine ⟨⟨hi0⟩, _, hat1, ?_⟩
    cbv
    refine br (fun h => absurd (eqI_t hΩ h) hft1) (fun h => ?_) <;> cbv
    refine loopX htab hΩ (fun k : Nat => ⟨[(0, .sl false 8 cs), (1, .sl false 1 xs), (2, .sl false 1 fs), (3, i64 t), (9, i64 ix), (10, .sl false 1 (bx k)), (11, i64 (Ω.int k))], 72, []⟩) (fun k => k ≤ s.length) (fun k => s.length - k) 0 (Nat.zero_le _)
      (Sbs.trans (Sbs.thaw0 (r := 0) rfl rfl rfl) (Sbs.trans (Sbs.cut 0 rfl) (Sbs.mk rfl rfl ⟨rfl, rfl, rfl, rfl, rfl, congrArg (A.sl false 1) hbx0.symm, zeroI hΩ, trivial⟩))) ?_
    intro k hk1
    have hbsk := hbs k
    have hblk := hbl k
    cbv
    refine br (fun h1 => ?_) (fun h1 => ?_) <;> cbv
    · replace h1 := ltI hΩ h1
      obtain ⟨c, hc⟩ := at_of (cs := s) (show k < s.length by omega)
      have hcm := List.mem_of_getElem? hc
      have hr := hatk k c hc
      have hbsk := hbsk c hc
      have hlc := hcl c hcm
      refine ⟨VC_pl htab hΩ hmo (.qs [0, 1, 2, 3, 4, 5, 6, 7] (.s 8 (.qs [9, 10, 11, 12, 13, 14, 15, 16] (.s 17 (.s 18 .fin))))) (by kernel_rfl) ?_⟩
      cbv
      refine ⟨⟨nnI hΩ⟩, _, hr, ?_⟩
      cbv
      refine ⟨⟨hi0⟩, _, hat1, ?_⟩
      cbv
      refine br (fun g1 => ?_) (fun g1 => ?_)
      · cbv
        have hdc : D c = true := (hfc c).1 ((eqI_t hΩ g1).trans hsub)
        have hih := ih c hcm hdc
        have hwl := hWl c hdc
        refine ⟨⟨nnI hΩ⟩, _, rdI hΩ hxs hc, ?_⟩
        cbv
        refine call_pure hΩ 3 hlc rfl (fits _) rfl rfl ?_
        cbv
        refine br (fun g2 => ?_) (fun g2 => ?_) <;> cbv
        · have hlt : L c t = true := by subst hΩ; simpa [std] using g2
          rw [hdc, hlt, Bool.and_self, if_pos rfl] at hbsk
          obtain ⟨wx, hwx⟩ : ∃ wx, wx = (W c).map i64 := ⟨_, rfl⟩
          have hwf : Fw.frz (.sl true 1 wx) = .sl false 1 wx := by rw [frz_sl, hwx, frz_I]
          have hwr : roFree (.sl true 1 wx) = true := by rw [hwx]; exact roF_I _
          have hls : (b k).length = m + 1 → PCtr P n_spec_l13Less [.sl false 1 wx, .sl false 1 (bx k)] (boo (lessL (W c) (b k))) := fun e => by
            have := hless (W c) (b k) (by omega) (by omega)
            rw [hwx, hbx]; exact this
          have hbxl : (bx k).length = (b k).length := by rw [hbx]; simp
          have yes : ((b k).length = 0 ∨ lessL (W c) (b k) = true) → A.sl false 1 wx = .sl false 1 (bx (k + 1)) := fun h => by
            rw [if_pos h] at hbsk
            rw [hwx, hbx]; simp only; rw [hbsk]
          have non : ¬ ((b k).length = 0 ∨ lessL (W c) (b k) = true) → A.sl false 1 (bx k) = .sl false 1 (bx (k + 1)) := fun h => by
            rw [if_neg h] at hbsk
            rw [hbx]; simp only; rw [hbsk]
          rw [← hwx] at hih
          generalize lessL (W c) (b k) = le at *
          clear hless hwx
          refine ⟨⟨nnI hΩ⟩, _, rdI hΩ hxs hc, ?_⟩
          cbv
          refine call_pf hΩ 3 hih rfl (fits _) hwr hwf rfl ?_
          cbv
          refine br (fun g3 => ?_) (fun g3 => ?_)
          · cbv
            have h0 : (b k).length = 0 := by
              have := eqI_t hΩ g3
              subst hΩ
              have h2 : (((bx k).length : Nat) : Int) = 0 := this
              omega
            exact ⟨k + 1, by omega, by omega, Sbs.mk rfl rfl ⟨rfl, rfl, rfl, rfl, rfl, yes (.inl h0), incI hΩ (by omega), trivial⟩⟩
          · cbv
            have h0 : (b k).length ≠ 0 := fun e => eqI_f hΩ g3 (by
              subst hΩ
              show (((bx k).length : Nat) : Int) = 0
              omega)
            have hb1 : (b k).length = m + 1 := by rcases hblk with h | h <;> omega
            refine call_pure hΩ 3 (hls hb1) rfl (fits _) rfl rfl ?_
            cbv
            refine br (fun g4 => ?_) (fun g4 => ?_) <;> cbv
            · have e : le = true := by subst hΩ; simpa [std] using g4
              exact ⟨k + 1, by omega, by omega, Sbs.mk rfl rfl ⟨rfl, rfl, rfl, rfl, rfl, yes (.inr e), incI hΩ (by omega), trivial⟩⟩
            · have e : le = false := by subst hΩ; simpa [std] using g4
              exact ⟨k + 1, by omega, by omega, Sbs.mk rfl rfl ⟨rfl, rfl, rfl, rfl, rfl, non (fun h => by rcases h with h | h <;> simp_all), incI hΩ (by omega), trivial⟩⟩
        · have hlt : L c t = false := by subst hΩ; simpa [std] using g2
          rw [hlt, Bool.and_false, if_neg (by simp)] at hbsk
          have e : bx k = bx (k + 1) := by rw [hbx]; simp only; rw [hbsk]
          exact ⟨k + 1, by omega, by omega, Sbs.mk rfl rfl ⟨rfl, rfl, rfl, rfl, rfl, congrArg (A.sl false 1) e, incI hΩ (by omega), trivial⟩⟩
      · cbv
        have hdc : D c = false := by
          cases e : D c with
          | false => rfl
          | true => exact absurd (((hfc c).2 e).trans hsub.symm) (eqI_f hΩ g1)
        rw [hdc, Bool.false_and, if_neg (by simp)] at hbsk
        have e : bx k = bx (k + 1) := by rw [hbx]; simp only; rw [hbsk]
        exact ⟨k + 1, by omega, by omega, Sbs.mk rfl rfl ⟨rfl, rfl, rfl, rfl, rfl, congrArg (A.sl false 1) e, incI hΩ (by omega), trivial⟩⟩
    · have hkn : k = s.length := by have := geI hΩ h1; omega
      have hblk' := hblk
      rw [hkn] at hblk' ⊢
      obtain ⟨bn, hbn⟩ : ∃ bn, bn = bx s.length := ⟨_, rfl⟩
      have hbnl : bn.length ≤ s.length := by
        rw [hbn, hbx]
        simp only
        rw [List.length_map]
        omega
      have hbn1 : (∀ y ∈ bn, noOwn y = true) ∧ (∀ c ∈ flat bn, okCell c = true) := by
        have := ints_okW (b s.length)
        rw [hbn, hbx]
        exact this
      have hbz : bn ++ [i64 t] = Z := by rw [hZ, hbn, hbx]; simp
      rw [← hbn]
      have l1 : Ω.plus 0 (Ω.len bn) = bn.length := by subst hΩ; show 0 + bn.length = _; omega
      have l2 : Ω.app (Ω.take (Ω.plus 0 (Ω.len bn)) (Ω.app (Ω.take 0 []) bn)) [i64 t] = Z := by
        rw [l1, ← hbz]
        subst hΩ
        show ([].take 0 ++ bn).take bn.length ++ _ = _
        simp
      have l3 : Ω.plus (Ω.plus 0 (Ω.len bn)) (Ω.len [i64 t]) = Z.length := by
        rw [l1, ← hbz]
        subst hΩ
        show bn.length + 1 = _
        simp
      refine ⟨⟨hbn1.1, hbn1.2, by show (0 + bn.length) * 8 ≤ _; omega, by show 0 + bn.length ≤ maxLen; unfold maxLen; omega⟩, ⟨rfl, by simp [flat, A.cells, okCell], by show (Ω.plus 0 (Ω.len bn) + 1) * 8 ≤ _; rw [l1]; omega, by show Ω.plus 0 (Ω.len bn) + 1 ≤ maxLen; rw [l1]; unfold maxLen; omega⟩, ⟨rfl, ?_⟩, .of (congrArg (A.sl true 1) ?_)⟩
      · show Ω.plus (Ω.plus 0 (Ω.len bn)) (Ω.len [i64 t]) ≤ (Ω.app (Ω.take (Ω.plus 0 (Ω.len bn)) (Ω.app (Ω.take 0 []) bn)) [i64 t]).length
        rw [l2, l3]
        exact Nat.le_refl _
      · show Ω.take (Ω.plus (Ω.plus 0 (Ω.len bn)) (Ω.len [i64 t])) (Ω.app (Ω.take (Ω.plus 0 (Ω.len bn)) (Ω.app (Ω.take 0 []) bn)) [i64 t]) = Z
        rw [l2, l3]
        subst hΩ
        exact List.take_length
end Go.Proofs.YtomfmdfamlmfiaaGreat

/- Who is an orphan, and why one is there: both sides walked. Plain theorems. -/
set_option linter.unusedVariables false
set_option linter.unusedSimpArgs false
namespace Go.Proofs.YtomfmdfamlmfiaaGreat
open Go Go.Fw
set_option maxRecDepth 100000
theorem setF_inc {c : List Pck} {s : List Int} (h : setF c s = 0) : s.Pairwise (· < ·) :=
  List.pairwise_iff_getElem.2 fun i j hi hj hij => setF_lt h (j - i - 1) i _ _ (List.getElem?_eq_getElem hi) (by rw [show i + (j - i - 1) + 1 = j by omega]; exact List.getElem?_eq_getElem hj)
/-- The way to k in the program's table. -/
def wayP (l : List Pck) (s : List Int) (a : List Trm) (k : Int) : List Int := (getK (tabP l s a) k).getD []
theorem wayP_eq {l : List Pck} {s : List Int} {a : List Trm} (hso : s.Pairwise (· < ·)) {k : Int} (hk : k ∈ s) : wayP l s a k = whyV (asksB l a) (leaB l) s k := by
  refine getK_why hso ?_ hk
  cases e : (tabW (asksB l a) (leaB l) s s.length).2 with
  | nil => rfl
  | cons v vs => exact absurd (tabW_lt hso (n := s.length) (by rw [e]; simp)) (by omega)
def orpS (l : List Pck) (s : List Int) (a : List Trm) : List Int := if askC l s a ≠ 0 then [] else s.filter fun k => decide (farV (asksB l a) (leaB l) s s.length k < 0)
theorem orpS_le (l : List Pck) (s : List Int) (a : List Trm) : (orpS l s a).length ≤ s.length := by
  unfold orpS
  split
  · exact Nat.zero_le _
  · exact List.length_filter_le _ _
theorem c_OrphansOf1 (es : List (Int × List Int)) (k : Int) : PCtr PP n_impl_OrphansOf_1 [i64 k, .rp [.rmp (es.map entA)]] (boo (decide (((getK es k).getD []).length = 0))) := by
  obtain ⟨Ω, hΩ⟩ : ∃ Ω, Ω = std := ⟨_, rfl⟩
  obtain ⟨kt, et, ht, hkt, hz⟩ := mapTy
  have hm := mok_ent es
  have hf := mfind_ent es k
  generalize es.map entA = xs at *
  obtain ⟨res, hres⟩ : ∃ res, res = decide (((getK es k).getD []).length = 0) := ⟨_, rfl⟩
  rw [← hres]
  have htab := tab
  refine PCtr.walk tab hΩ fn_impl_OrphansOf_1 rfl ?_
  generalize PP = P at *
  cbv
  cases hg : getK es k with
  | none =>
    rw [hg] at hf
    replace hf : mfind k xs = none := hf
    refine hard_lookR (ok := false) rfl ht hkt hz rfl rfl rfl hm (z := .nil) (by rw [hf]; rfl) ?_
    cbv
    exact .of (congrArg boo (by rw [hres, hg]; subst hΩ; rfl))
  | some v =>
    rw [hg] at hf
    obtain ⟨vs, hvs⟩ : ∃ vs, vs = v.map i64 := ⟨_, rfl⟩
    have hvl : vs.length = v.length := by rw [hvs, List.length_map]
    replace hf : mfind k xs = some (.sl false 1 vs) := by rw [hf, hvs]; rfl
    clear hvs
    refine hard_lookR (ok := false) rfl ht hkt hz rfl rfl rfl hm (z := .sl false 1 vs) (by rw [hf]; rfl) ?_
    cbv
    refine .of (congrArg boo ?_)
    rw [hres, hg]
    show Ω.cmp .eql (Ω.int (Ω.len vs)) 0 = decide (v.length = 0)
    rw [← hvl]
    subst hΩ
    show decide (((vs.length : Nat) : Int) = 0) = _
    simp
theorem c_implOrphansOf (l : List Pck) (s : List Int) (a : List Trm) (hl : l.length ≤ 1048576) (ho : ∀ o ∈ l, o.Small) (hs : s.length ≤ 1048576) (ha : a.length ≤ 1048576) : PCtr PP n_impl_OrphansOf [encP l, .sl false 1 (s.map i64), .sl false 7 (a.map Trm.enc)] (setR (askC l s a) 0 (orpS l s a)) := by
  obtain ⟨Ω, hΩ⟩ : ∃ Ω, Ω = std := ⟨_, rfl⟩
  have hc := c_asksCode l s a hl hs ha ho
  obtain ⟨k0, hk0⟩ : ∃ x, askC l s a = x := ⟨_, rfl⟩
  rw [hk0] at hc
  have hw : k0 = 0 → PCtr PP n_impl_ways [encP l, .sl false 1 (s.map i64), .sl false 7 (a.map Trm.enc)] (.rmp ((tabP l s a).map entA)) := fun e =>
    c_ways l s a hl hs ha ho (setF_in (askC_set (hk0.trans e)).1) (setF_inc (askC_set (hk0.trans e)).1)
  have hth : PCtr PP n_impl_those [.sl false 1 (s.map i64), .clo n_impl_OrphansOf_1 [.rp [.rmp ((tabP l s a).map entA)]]] (ints (s.filter fun k => decide (((getK (tabP l s a) k).getD []).length = 0))) :=
    c_those s hs _ _ _ ⟨fun _ _ => rfl, rfl, fun _ => rfl, fun k hk => c_OrphansOf1 (tabP l s a) k⟩
  have hroZ := roFInt (s.filter fun k => decide (((getK (tabP l s a) k).getD []).length = 0))
  have hS : orpS l s a = if k0 ≠ 0 then [] else s.filter fun k => decide (((getK (tabP l s a) k).getD []).length = 0) := by
    unfold orpS
    rw [hk0]
    by_cases e : k0 = 0
    · rw [if_neg (by simp [e]), if_neg (by simp [e])]
      refine List.filter_congr fun k hk => ?_
      have h1 := wayP_eq (l := l) (a := a) (setF_inc (askC_set (hk0.trans e)).1) hk
      unfold wayP at h1
      rw [h1]
      exact decide_eq_decide.2 (whyV_nil hk).symm
    · rw [if_pos e, if_pos e]
  unfold ints encP at *
  rw [hk0]
  generalize orpS l s a = Z at *
  generalize (s.filter fun k => decide (((getK (tabP l s a) k).getD []).length = 0)) = zs at *
  generalize (tabP l s a).map entA = es at *
  have htab := tab
  generalize s.map i64 = xs at *
  generalize a.map Trm.enc = tsx at *
  generalize l.map (Pck.enc false) = cs at *
  refine PCtr.walk tab hΩ fn_impl_OrphansOf rfl ?_
  generalize hA : setR k0 0 Z = R
  generalize PP = P at *
  cbv
  refine call_pure hΩ 3 hc rfl (fits _) rfl rfl ?_
  cbv
  refine br (fun g1 => ?_) (fun g1 => ?_) <;> cbv
  · have g1 : k0 ≠ 0 := neI_t hΩ g1
    have e2 : Z = [] := by rw [hS, if_pos g1]
    rw [← hA, e2]
    exact fit_nilR k0 0
  have g1 : k0 = 0 := neI_f hΩ g1
  have e2 : Z = zs := by rw [hS, g1]; rfl
  refine call_share hΩ 3 (hw g1) rfl (fits _) rfl ?_
  cbv
  obtain ⟨zz, hzz⟩ : ∃ zz, zz = zs.map i64 := ⟨_, rfl⟩
  rw [← hzz] at hth hroZ
  refine call_pure hΩ 5 hth (ro_clo2 rfl rfl) (fits _) hroZ rfl ?_
  cbv
  exact ⟨⟨rfl, by subst hΩ; exact Nat.le_refl _⟩, by rw [← hA, g1, e2]; exact fit_R hΩ 0 0 zs hzz⟩
end Go.Proofs.YtomfmdfamlmfiaaGreat

/- Why one is there: both sides walked; a way with a code, told, marked and held. Plain theorems. -/
set_option linter.unusedVariables false
set_option linter.unusedSimpArgs false
namespace Go.Proofs.YtomfmdfamlmfiaaGreat
open Go Go.Fw
set_option maxRecDepth 100000
theorem mapO4w {f : A → Option A} {x x' y y' z z' u u' : A} (h : f x = some x') (h2 : f y = some y') (h3 : f z = some z') (h4 : f u = some u') : mapO f [x, y, z, u] = some [x', y', z', u'] := by simp [mapO, h, h2, h3, h4]
def whyC (l : List Pck) (s : List Int) (a : List Trm) (t : Int) : Int := if askC l s a ≠ 0 then askC l s a else if s.any (· == t) then (if farV (asksB l a) (leaB l) s s.length t < 0 then 1 else 0) else 4
def whyS (l : List Pck) (s : List Int) (a : List Trm) (t : Int) : List Int := if whyC l s a t ≠ 0 then [] else whyV (asksB l a) (leaB l) s t
def chnR (k : Int) (s : List Int) : A := .agg [i64 k, .sl true 1 (s.map i64)]
theorem fit_nilN (k : Int) : FitX (.agg [i64 k, .nil]) (chnR k []) := ⟨2, by unfold chnR; simp [fitA, fitA.fitL, i64]⟩
theorem fit_N {Ω : Opq} (hΩ : Ω = std) (k : Int) (s : List Int) {zs : List A} (h : zs = s.map i64) : FitX (.agg [i64 k, .sl true 1 (Ω.take (Ω.len zs) zs)]) (chnR k s) := .of (by subst hΩ; subst h; unfold chnR; show A.agg [_, A.sl true 1 ((s.map i64).take (s.map i64).length)] = _; rw [List.take_length])
theorem whyV_len {l : List Pck} {s : List Int} {a : List Trm} {t : Int} (ht : t ∈ s) : (whyV (asksB l a) (leaB l) s t).length ≤ s.length := by
  unfold whyV
  split
  · exact Nat.zero_le _
  · rename_i h
    obtain ⟨m, hm⟩ : ∃ m, (lvD (asksB l a) (leaB l) s m t).1 = true := by
      rcases Classical.em (∃ m, (lvD (asksB l a) (leaB l) s m t).1 = true) with h' | h'
      · exact h'
      · exfalso
        refine h ((farV_neg ht).2 fun m => ?_)
        cases e : (lvD (asksB l a) (leaB l) s m t).1 with
        | false => rfl
        | true => exact absurd ⟨m, e⟩ h'
    have h1 := whyV_of ht hm
    unfold whyV at h1
    rw [if_neg h] at h1
    rw [h1, wayD_len hm]
    exact lvD_lt ht hm
theorem whyS_le (l : List Pck) (s : List Int) (a : List Trm) (t : Int) : (whyS l s a t).length ≤ s.length := by
  unfold whyS
  split
  · exact Nat.zero_le _
  · rename_i h
    refine whyV_len ?_
    unfold whyC at h
    by_cases e : askC l s a = 0
    · rw [if_neg (by simp [e])] at h
      cases hb : s.any (· == t) with
      | true =>
        obtain ⟨x, hx, e⟩ := List.any_eq_true.1 hb
        have : x = t := by simpa using e
        subst this; exact hx
      | false => rw [hb] at h; simp at h
    · rw [if_pos e] at h; exact absurd e h
theorem c_implWhyOf (l : List Pck) (s : List Int) (a : List Trm) (t : Int) (hl : l.length ≤ 1048576) (ho : ∀ o ∈ l, o.Small) (hs : s.length ≤ 1048576) (ha : a.length ≤ 1048576) : PCtr PP n_impl_WhyOf [encP l, .sl false 1 (s.map i64), .sl false 7 (a.map Trm.enc), i64 t] (chnR (whyC l s a t) (whyS l s a t)) := by
  obtain ⟨Ω, hΩ⟩ : ∃ Ω, Ω = std := ⟨_, rfl⟩
  have hc := c_asksCode l s a hl hs ha ho
  have hp := c_ContainsI s t (by omega)
  obtain ⟨k0, hk0⟩ : ∃ x, askC l s a = x := ⟨_, rfl⟩
  obtain ⟨bi, hbi⟩ : ∃ x, s.any (· == t) = x := ⟨_, rfl⟩
  rw [hk0] at hc
  rw [hbi] at hp
  have hin : bi = true → t ∈ s := fun h => by
    rw [h] at hbi
    obtain ⟨x, hx, e⟩ := List.any_eq_true.1 hbi
    have : x = t := by simpa using e
    subst this; exact hx
  have hw : k0 = 0 → PCtr PP n_impl_ways [encP l, .sl false 1 (s.map i64), .sl false 7 (a.map Trm.enc)] (.rmp ((tabP l s a).map entA)) := fun e =>
    c_ways l s a hl hs ha ho (setF_in (askC_set (hk0.trans e)).1) (setF_inc (askC_set (hk0.trans e)).1)
  obtain ⟨w, hwv⟩ : ∃ w, w = (getK (tabP l s a) t).getD [] := ⟨_, rfl⟩
  have hww : k0 = 0 → bi = true → w = whyV (asksB l a) (leaB l) s t := fun e1 e2 => by
    rw [hwv]
    exact wayP_eq (setF_inc (askC_set (hk0.trans e1)).1) (hin e2)
  have hwl : k0 = 0 → bi = true → w.length ≤ 1048576 := fun e1 e2 => by rw [hww e1 e2]; exact Nat.le_trans (whyV_len (hin e2)) hs
  have hwz : k0 = 0 → bi = true → (w.length = 0 ↔ farV (asksB l a) (leaB l) s s.length t < 0) := fun e1 e2 => by rw [hww e1 e2]; exact whyV_nil (hin e2)
  have hC : whyC l s a t = if k0 ≠ 0 then k0 else if bi then (if farV (asksB l a) (leaB l) s s.length t < 0 then 1 else 0) else 4 := by unfold whyC; rw [hk0, hbi]
  have hS : whyC l s a t = 0 → k0 = 0 → bi = true → whyS l s a t = w := fun e e1 e2 => by unfold whyS; rw [e, hww e1 e2]; rfl
  have hS0 : whyC l s a t ≠ 0 → whyS l s a t = [] := fun e => by unfold whyS; rw [if_pos e]
  have hm := mok_ent (tabP l s a)
  have hf := mfind_ent (tabP l s a) t
  have hcl : w.length ≤ 1048576 → PCtr PP n_slices_Clone_L_int64_int64 [.sl false 1 (w.map i64)] (.sl true 1 (w.map i64)) := fun h => c_Clone w h
  obtain ⟨z, hz1, hz2⟩ : ∃ z : A, lkA false (mfind t ((tabP l s a).map entA)) .nil = z ∧ (z = .sl false 1 (w.map i64) ∨ (z = .nil ∧ w = [])) := by
    rw [hf, hwv]
    cases getK (tabP l s a) t with
    | none => exact ⟨_, rfl, .inr ⟨rfl, rfl⟩⟩
    | some v => exact ⟨_, rfl, .inl rfl⟩
  have hroZ : roFree (.sl true 1 (w.map i64)) = true := roFInt w
  obtain ⟨ws, hws⟩ : ∃ ws, ws = w.map i64 := ⟨_, rfl⟩
  have hwsl : ws.length = w.length := by rw [hws, List.length_map]
  rw [← hws] at hz2 hcl hroZ
  obtain ⟨kt, et, ht, hkt, hzz⟩ := mapTy
  unfold encP at *
  generalize whyS l s a t = Z at *
  generalize whyC l s a t = C at *
  generalize (tabP l s a).map entA = es at *
  clear hwv hww hf
  generalize (farV (asksB l a) (leaB l) s s.length t) = fv at *
  have htab := tab
  generalize s.map i64 = xs at *
  generalize a.map Trm.enc = tsx at *
  generalize l.map (Pck.enc false) = cs at *
  refine PCtr.walk tab hΩ fn_impl_WhyOf rfl ?_
  generalize hA : chnR C Z = R
  generalize PP = P at *
  cbv
  refine call_pure hΩ 3 hc rfl (fits _) rfl rfl ?_
  cbv
  refine br (fun g1 => ?_) (fun g1 => ?_)
  · have g1 : k0 = 0 := eqI_t hΩ g1
    cbv
    refine call_pure hΩ 3 hp rfl (fits _) rfl rfl ?_
    cbv
    refine br (fun g2 => ?_) (fun g2 => ?_)
    · have g2 : bi = false := by subst hΩ; simpa [std] using g2
      have e1 : C = 4 := by rw [hC, g1, g2]; rfl
      have e2 : Z = [] := hS0 (by rw [e1]; decide)
      cbv
      refine br (fun g3 => ?_) (fun g3 => absurd (neI_f hΩ g3) (by decide))
      cbv
      rw [← hA, e1, e2]
      exact fit_nilN 4
    · have g2 : bi = true := by subst hΩ; simpa [std] using g2
      cbv
      refine br (fun g3 => absurd g1 (neI_t hΩ g3)) (fun g3 => ?_)
      cbv
      refine call_share hΩ 3 (hw g1) rfl (fits _) rfl ?_
      cbv
      have hwl := hwl g1 g2
      have hwz := hwz g1 g2
      rcases hz2 with rfl | ⟨rfl, hw0⟩
      · refine hard_lookR (ok := false) (z := .sl false 1 ws) rfl ht hkt hzz rfl rfl rfl hm hz1 ?_
        cbv
        refine br (fun g4 => ?_) (fun g4 => ?_)
        · have h0 : w.length = 0 := by
            have := eqI_t hΩ g4
            subst hΩ
            have h2 : ((ws.length : Nat) : Int) = 0 := this
            omega
          have e1 : C = 1 := by rw [hC, g1, g2]; simp [hwz.1 h0]
          have e2 : Z = [] := hS0 (by rw [e1]; decide)
          cbv
          rw [← hA, e1, e2]
          exact fit_nilN 1
        · have h0 : w.length ≠ 0 := fun e => eqI_f hΩ g4 (by
            subst hΩ
            show ((ws.length : Nat) : Int) = 0
            omega)
          have hnf : ¬ fv < 0 := fun h => h0 (hwz.2 h)
          have e1 : C = 0 := by rw [hC, g1, g2, if_neg (by simp), if_pos rfl, if_neg hnf]
          have e2 : Z = w := hS e1 g1 g2
          cbv
          refine call_pure hΩ 3 (hcl hwl) rfl (fits _) hroZ rfl ?_
          cbv
          exact ⟨⟨rfl, by subst hΩ; exact Nat.le_refl _⟩, by rw [← hA, e1, e2]; exact fit_N hΩ 0 w hws⟩
      · refine hard_lookR (ok := false) (z := .nil) rfl ht hkt hzz rfl rfl rfl hm hz1 ?_
        have h0 : w.length = 0 := by rw [hw0]; rfl
        have e1 : C = 1 := by rw [hC, g1, g2]; simp [hwz.1 h0]
        have e2 : Z = [] := hS0 (by rw [e1]; decide)
        cbv
        refine br (fun g4 => ?_) (fun g4 => absurd rfl (eqI_f hΩ g4))
        cbv
        rw [← hA, e1, e2]
        exact fit_nilN 1
  · have g1 : k0 ≠ 0 := eqI_f hΩ g1
    have e1 : C = k0 := by rw [hC, if_pos g1]
    have e2 : Z = [] := hS0 (by rw [e1]; exact g1)
    cbv
    refine br (fun g3 => ?_) (fun g3 => absurd (neI_f hΩ g3) g1)
    cbv
    rw [← hA, e1, e2]
    exact fit_nilN k0
theorem c_specWhyOf (l : List Pck) (s : List Int) (a : List Trm) (t : Int) (hl : l.length ≤ 1048576) (ho : ∀ o ∈ l, o.Small) (hs : s.length ≤ 1048576) (ha : a.length ≤ 1048576) : PCtr PP n_spec_WhyOf [encP l, .sl false 1 (s.map i64), .sl false 7 (a.map Trm.enc), i64 t] (chnR (whyC l s a t) (whyS l s a t)) := by
  obtain ⟨Ω, hΩ⟩ : ∃ Ω, Ω = std := ⟨_, rfl⟩
  have hc := c_l13Asked l s a hl hs ha ho
  have hp := c_l1Has s t (by omega)
  have hpl := c_l13Place s t (by omega)
  obtain ⟨k0, hk0⟩ : ∃ x, askC l s a = x := ⟨_, rfl⟩
  obtain ⟨bi, hbi⟩ : ∃ x, s.any (· == t) = x := ⟨_, rfl⟩
  rw [hk0] at hc
  rw [hbi] at hp
  have hin : bi = true → t ∈ s := fun h => by
    rw [h] at hbi
    obtain ⟨x, hx, e⟩ := List.any_eq_true.1 hbi
    have : x = t := by simpa using e
    subst this; exact hx
  have hw : k0 = 0 → PCtr PP n_spec_l13Far [encP l, .sl false 1 (s.map i64), .sl false 7 (a.map Trm.enc)] (.sl true 1 ((farL l s a).map i64)) := fun e => c_l13Far l s a hl hs ha ho (setF_in (askC_set (hk0.trans e)).1)
  obtain ⟨f, hf⟩ : ∃ f : Int → Int, f = farV (asksB l a) (leaB l) s s.length := ⟨_, rfl⟩
  have hfl : farL l s a = s.map f := by unfold farL; rw [hf]
  obtain ⟨fv, hfv⟩ : ∃ fv, fv = f t := ⟨_, rfl⟩
  obtain ⟨ix, hix⟩ : ∃ ix, ix = idx (fun c => t == c) s := ⟨_, rfl⟩
  have hfat : bi = true → 0 ≤ ix ∧ ix < ((s.length : Nat) : Int) ∧ ((farL l s a).map i64)[Ω.plus 0 (Ω.nat ix)]? = some (i64 fv) := fun h => by
    obtain ⟨h1, h2⟩ := idx_mem (hin h)
    rw [← hix] at h1 h2
    have h3 := (List.getElem?_eq_some_iff.1 h2).1
    refine ⟨h1, by omega, ?_⟩
    rw [hfl, hfv]
    subst hΩ
    show ((s.map f).map i64)[0 + ix.toNat]? = _
    rw [Nat.zero_add, List.getElem?_map, List.getElem?_map, h2]; rfl
  rw [← hix] at hpl
  have hway : k0 = 0 → bi = true → ¬ fv < 0 → PCtr PP n_spec_l13Way [encP l, .sl false 1 (s.map i64), .sl false 1 ((farL l s a).map i64), i64 t] (.sl true 1 ((whyV (asksB l a) (leaB l) s t).map i64)) := fun e1 e2 e3 => by
    have ht := hin e2
    obtain ⟨m, hm⟩ : ∃ m, (lvD (asksB l a) (leaB l) s m t).1 = true := by
      rcases Classical.em (∃ m, (lvD (asksB l a) (leaB l) s m t).1 = true) with h' | h'
      · exact h'
      · exfalso
        rw [hfv, hf] at e3
        refine e3 ((farV_neg ht).2 fun m => ?_)
        cases e : (lvD (asksB l a) (leaB l) s m t).1 with
        | false => rfl
        | true => exact absurd ⟨m, e⟩ h'
    rw [whyV_of ht hm]
    exact c_l13Way l s a hl hs ho (setF_in (askC_set (hk0.trans e1)).1) m t ht hm
  have hC : whyC l s a t = if k0 ≠ 0 then k0 else if bi then (if fv < 0 then 1 else 0) else 4 := by unfold whyC; rw [hk0, hbi, hfv, hf]
  have hS : whyC l s a t = 0 → whyS l s a t = whyV (asksB l a) (leaB l) s t := fun e => by unfold whyS; rw [e]; rfl
  have hS0 : whyC l s a t ≠ 0 → whyS l s a t = [] := fun e => by unfold whyS; rw [if_pos e]
  have hroZ := roFInt (farL l s a)
  have hroW := roFInt (whyV (asksB l a) (leaB l) s t)
  have hfz := frz_I (farL l s a)
  have hfn : ((farL l s a).map i64).length = s.length := by rw [hfl]; simp
  obtain ⟨fs, hfs⟩ : ∃ fs, fs = (farL l s a).map i64 := ⟨_, rfl⟩
  obtain ⟨nn, hnn⟩ : ∃ nn, nn = s.length := ⟨_, rfl⟩
  rw [← hfs] at hw hway hroZ hfat hfz hfn
  rw [← hnn] at hfat hfn
  have hlo : Ω.len fs = nn := by subst hΩ; exact hfn
  have hlo2 : Ω.len fs = fs.length := by rw [hlo, hfn]
  generalize whyV (asksB l a) (leaB l) s t = w at *
  obtain ⟨ws, hws⟩ : ∃ ws, ws = w.map i64 := ⟨_, rfl⟩
  rw [← hws] at hway hroW
  unfold encP at *
  generalize whyS l s a t = Z at *
  generalize whyC l s a t = C at *
  clear hfs hfl hf hfv hix
  have htab := tab
  generalize s.map i64 = xs at *
  generalize a.map Trm.enc = tsx at *
  generalize l.map (Pck.enc false) = cs at *
  refine PCtr.walk tab hΩ fn_spec_WhyOf rfl ?_
  generalize hA : chnR C Z = R
  generalize PP = P at *
  cbv
  refine call_pure hΩ 3 hc rfl (fits _) rfl rfl ?_
  cbv
  refine br (fun g1 => ?_) (fun g1 => ?_) <;> cbv
  · have g1 : k0 ≠ 0 := neI_t hΩ g1
    have e1 : C = k0 := by rw [hC, if_pos g1]
    have e2 : Z = [] := hS0 (by rw [e1]; exact g1)
    rw [← hA, e1, e2]
    exact fit_nilN k0
  have g1 : k0 = 0 := neI_f hΩ g1
  refine call_pure hΩ 3 hp rfl (fits _) rfl rfl ?_
  cbv
  refine br (fun g2 => ?_) (fun g2 => ?_) <;> cbv
  · have g2 : bi = false := notT' hΩ g2
    have e1 : C = 4 := by rw [hC, g1, g2]; rfl
    have e2 : Z = [] := hS0 (by rw [e1]; decide)
    rw [← hA, e1, e2]
    exact fit_nilN 4
  have g2 : bi = true := notF' hΩ g2
  obtain ⟨hi0, hi1, hi2⟩ := hfat g2
  refine call_pure hΩ 3 (hw g1) rfl (fits _) hroZ rfl ?_
  cbv
  refine call_pure hΩ 3 hpl rfl (fits _) rfl rfl ?_
  cbv
  refine ⟨⟨hi0, by show ix < ((Ω.len fs : Nat) : Int); rw [hlo]; exact hi1⟩, _, hi2, ?_⟩
  cbv
  refine br (fun g3 => ?_) (fun g3 => ?_) <;> cbv
  · have e1 : C = 1 := by rw [hC, g1, g2]; simp [show fv < 0 from ltI_t hΩ g3]
    have e2 : Z = [] := hS0 (by rw [e1]; decide)
    rw [← hA, e1, e2]
    exact fit_nilN 1
  · have h0 : ¬ fv < 0 := Int.not_lt.2 (ltI_f hΩ g3)
    have e1 : C = 0 := by rw [hC, g1, g2]; simp [h0]
    have e2 : Z = w := hS e1
    refine call_pure hΩ 3 (hway g1 g2 h0) (mapO4w rfl rfl (ro_vw rfl hlo2 hfz) rfl) (fits _) hroW rfl ?_
    cbv
    exact ⟨⟨rfl, by subst hΩ; exact Nat.le_refl _⟩, by rw [← hA, e1, e2]; exact fit_N hΩ 0 w hws⟩
theorem roF_chnR (k : Int) (l : List Int) : roFree (.agg [i64 k, .sl true 1 (l.map i64)]) = true := by
  rw [roFree_agg]
  simp only [List.all_cons, List.all_nil, roF_I]
  rfl
end Go.Proofs.YtomfmdfamlmfiaaGreat

/- The law of ways, walked: a way leads from what is asked to what is there; what has none is an orphan. Plain theorems. -/
set_option linter.unusedVariables false
set_option linter.unusedSimpArgs false
namespace Go.Proofs.YtomfmdfamlmfiaaGreat
open Go Go.Fw
set_option maxRecDepth 100000
theorem catFrom_zero {all : List Pck} : ∀ {xs : List Pck} {i : Nat}, catFrom all i xs = 0 → ∀ o ∈ xs, packF o = 0
  | [], _, _, _, h => by simp at h
  | x :: xs, i, h, o, ho => by
    simp only [catFrom] at h
    split at h
    · rename_i h1; exact absurd h h1
    · rename_i h1
      split at h
      · cases h
      · rcases List.mem_cons.1 ho with rfl | ho
        · exact Decidable.not_not.1 h1
        · exact catFrom_zero h o ho
theorem setF_pack {c : List Pck} {s : List Int} (h : setF c s = 0) : ∀ o ∈ c, packF o = 0 := by
  unfold setF at h
  split at h
  · rename_i h0; exact absurd h h0
  · rename_i h0
    have h0 : catF c = 0 := Decidable.not_not.1 h0
    unfold catF at h0
    split at h0
    · cases h0
    · exact catFrom_zero h0
theorem firstF_zeroW {α : Type} {f : α → Int} : ∀ {l : List α}, firstF f l = 0 → ∀ x ∈ l, f x = 0
  | [], _, _, h => by simp at h
  | x :: l, h, y, hy => by
    simp only [firstF] at h
    split at h
    · rename_i h1; exact absurd h h1
    · rename_i h1
      rcases List.mem_cons.1 hy with rfl | hy
      · exact Decidable.not_not.1 h1
      · exact firstF_zeroW h y hy
theorem wayD_chain {asks : Int → Bool} {lea : Int → Int → Bool} {set : List Int} : ∀ {m : Nat} {t : Int}, t ∈ set → (lvD asks lea set m t).1 = true → (∃ x, (wayD asks lea set m t)[0]? = some x ∧ x ∈ set ∧ asks x = true) ∧
    ∀ i x y, (wayD asks lea set m t)[i]? = some x → (wayD asks lea set m t)[i + 1]? = some y → x ∈ set ∧ y ∈ set ∧ lea x y = true
  | 0, t, ht, h => by
    refine ⟨⟨t, rfl, ht, h⟩, fun i x y h1 h2 => ?_⟩
    simp [wayD] at h2
  | m + 1, t, ht, h => by
    obtain ⟨j, hj, hd, hl, e⟩ := wayD_succ h
    obtain ⟨⟨x0, q1, q2, q3⟩, q4⟩ := wayD_chain hj hd
    have hlen := wayD_len hd
    rw [e]
    refine ⟨⟨x0, ?_, q2, q3⟩, fun i x y h1 h2 => ?_⟩
    · rw [List.getElem?_append_left (by omega)]; exact q1
    · rcases Nat.lt_or_ge (i + 1) (wayD asks lea set m j).length with h3 | h3
      · rw [List.getElem?_append_left (by omega)] at h1 h2
        exact q4 i x y h1 h2
      · have h4 := (List.getElem?_eq_some_iff.1 h2).1
        simp only [List.length_append, List.length_singleton] at h4
        have hi : i + 1 = (wayD asks lea set m j).length := by omega
        rw [List.getElem?_append_right (by omega), hi, Nat.sub_self] at h2
        rw [List.getElem?_append_left (by omega)] at h1
        have hlast := wayD_last (asks := asks) (lea := lea) (set := set) m j
        rw [List.getLast?_eq_getElem?, ← hi, Nat.add_sub_cancel] at hlast
        rw [hlast] at h1
        obtain rfl := Option.some.inj h1
        obtain rfl : t = y := by simpa using h2
        exact ⟨hj, ht, hl⟩
structure WhyOK (l : List Pck) (s : List Int) (a : List Trm) (t : Int) (w : List Int) : Prop where
  ask : askC l s a = 0
  mem : t ∈ s
  last : w.getLast? = some t
  orp : (orpS l s a).any (· == t) = false
  fst : ∃ x, w[0]? = some x ∧ x ∈ s ∧ asksB l a x = true
  pair : ∀ i x y, w[i]? = some x → w[i + 1]? = some y → x ∈ s ∧ y ∈ s ∧ nedB l y x = true
theorem whyS_ok {l : List Pck} {s : List Int} {a : List Trm} {t : Int} (h : whyC l s a t = 0) : WhyOK l s a t (whyS l s a t) := by
  have hS : whyS l s a t = whyV (asksB l a) (leaB l) s t := by unfold whyS; rw [h]; rfl
  unfold whyC at h
  by_cases e : askC l s a = 0
  · rw [if_neg (by simp [e])] at h
    cases hb : s.any (· == t) with
    | false => rw [hb] at h; simp at h
    | true =>
      have ht : t ∈ s := by
        obtain ⟨x, hx, e⟩ := List.any_eq_true.1 hb
        have : x = t := by simpa using e
        subst this; exact hx
      rw [hb, if_pos rfl] at h
      split at h
      · cases h
      · rename_i hf
        obtain ⟨m, hm⟩ : ∃ m, (lvD (asksB l a) (leaB l) s m t).1 = true := by
          rcases Classical.em (∃ m, (lvD (asksB l a) (leaB l) s m t).1 = true) with h' | h'
          · exact h'
          · exfalso
            refine hf ((farV_neg ht).2 fun m => ?_)
            cases e : (lvD (asksB l a) (leaB l) s m t).1 with
            | false => rfl
            | true => exact absurd ⟨m, e⟩ h'
        have hw := whyV_of ht hm
        obtain ⟨h1, h2⟩ := wayD_chain ht hm
        rw [hS, hw]
        refine ⟨e, ht, wayD_last m t, ?_, h1, h2⟩
        cases ho : (orpS l s a).any (· == t) with
        | false => rfl
        | true =>
          obtain ⟨x, hx, e2⟩ := List.any_eq_true.1 ho
          have : x = t := by simpa using e2
          subst this
          unfold orpS at hx
          rw [if_neg (by simp [e])] at hx
          exact absurd (by simpa using (List.mem_filter.1 hx).2) hf
  · rw [if_pos e] at h; exact absurd h e
theorem whyC_orp {l : List Pck} {s : List Int} {a : List Trm} {t : Int} (h : whyC l s a t = 1) (e : askC l s a = 0) : (orpS l s a).any (· == t) = true := by
  unfold whyC at h
  rw [if_neg (by simp [e])] at h
  cases hb : s.any (· == t) with
  | false => rw [hb] at h; simp at h
  | true =>
    rw [hb, if_pos rfl] at h
    split at h
    · rename_i hf
      obtain ⟨x, hx, e2⟩ := List.any_eq_true.1 hb
      have : x = t := by simpa using e2
      subst this
      unfold orpS
      rw [if_neg (by simp [e])]
      exact List.any_eq_true.2 ⟨x, List.mem_filter.2 ⟨hx, by simpa using hf⟩, by simp⟩
    · cases h
theorem eqSelf {Ω : Opq} (hΩ : Ω = std) {x : Int} : Ω.cmp .eql x x = true := by subst hΩ; simp [std, cmpIS]
theorem neSelf {Ω : Opq} (hΩ : Ω = std) {x : Int} : Ω.cmp .neq x x = false := by subst hΩ; simp [std, cmpIS]
theorem eqNe {Ω : Opq} (hΩ : Ω = std) {x y : Int} (h : x ≠ y) : Ω.cmp .eql x y = false := by subst hΩ; simp [std, cmpIS, h]

set_option maxHeartbeats 1000000 in
theorem c_lawWhys (bs : List A) (hby : ∀ i, i < bs.length → ∃ c : UInt8, bs[i]? = some (.sc (.int .u8 (c.toNat : Int)))) : PCtr PP n_laws_FnWhys [.sl false 1 bs] (boo true) := by
  obtain ⟨Ω, hΩ⟩ : ∃ Ω, Ω = std := ⟨_, rfl⟩
  have hbig := c_lwBig bs
  have hdr : bs.length ≤ 1048576 → _ := fun h => d_DrawWhyOf (bs := bs) ⟨h, hby⟩
  have hiw := fun (l : List Pck) (s : List Int) (a : List Trm) (t : Int) (o : ∀ o ∈ l, o.Small) (b : l.length ≤ 40) (c : s.length ≤ 1048576) (d : a.length ≤ 1048576) => c_implWhyOf l s a t (by omega) o c d
  have hsw := fun (l : List Pck) (s : List Int) (a : List Trm) (t : Int) (o : ∀ o ∈ l, o.Small) (b : l.length ≤ 40) (c : s.length ≤ 1048576) (d : a.length ≤ 1048576) => c_specWhyOf l s a t (by omega) o c d
  have hio := fun (l : List Pck) (s : List Int) (a : List Trm) (o : ∀ o ∈ l, o.Small) (b : l.length ≤ 40) (c : s.length ≤ 1048576) (d : a.length ≤ 1048576) => c_implOrphansOf l s a (by omega) o c d
  have hsf := fun (l : List Pck) (s : List Int) (o : ∀ o ∈ l, o.Small) (b : l.length ≤ 40) (c : s.length ≤ 1048576) => c_specSetFault l s (by omega) o c
  have hnd := fun (l : List Pck) (s : List Int) (t : Int) (o : ∀ o ∈ l, o.Small) (b : l.length ≤ 40) (c : s.length ≤ 1048576) => c_implNeedersOf l s t (by omega) o c
  have hgt := c_GivesTerm
  have hlw := fun (l : List Int) (s : Int) (a : l.length ≤ 1048576) => c_lwHas l s (by omega)
  obtain ⟨g, hg⟩ : ∃ g, g = decide (1048576 < bs.length) := ⟨_, rfl⟩
  have hdr' : g = false → _ := fun h => hdr (by rw [hg] at h; simpa using h)
  clear hdr
  rw [← hg] at hbig
  clear hg
  have htab := tab
  have hmo := hmo
  refine PCtr.walk tab hΩ fn_laws_FnWhys rfl ?_
  generalize PP = P at *
  cbv
  refine call_pure hΩ 3 hbig rfl (fits _) rfl rfl ?_
  cbv
  refine br (fun h => ?_) (fun h => ?_) <;> cbv
  · exact .same
  refine call_d0 hΩ 3 (hdr' h) rfl rfl ?_
  rintro x o ⟨ho, l, s, a, t, rfl, hl, hll, hsl, hal⟩
  refine ⟨ho, ?_⟩
  have hiw := hiw l s a t hl hll hsl hal
  have hsw := hsw l s a t hl hll hsl hal
  have hio := hio l s a hl hll hsl hal
  have hsf := hsf l s hl hll hsl
  have hnd := fun t => hnd l s t hl hll hsl
  have hoL : (orpS l s a).length ≤ 1048576 := Nat.le_trans (orpS_le l s a) hsl
  have hlo := hlw (orpS l s a) t hoL
  have hC1 := fun (h : whyC l s a t = 1) e => whyC_orp h e
  have hC0 : whyC l s a t = 0 → WhyOK l s a t (whyS l s a t) := fun h => whyS_ok h
  have hwL : (whyS l s a t).length ≤ 1048576 := Nat.le_trans (whyS_le l s a t) hsl
  -- the first one is asked for
  have hfst : ∀ x, WhyOK l s a t (whyS l s a t) → x ∈ s → asksB l a x = true → ∃ G : Trm → Bool, a.any G = true ∧ (0 ≤ x ∧ (l.map (Pck.enc false))[x.toNat]? = some ((pk l x).enc false)) ∧ ∀ t', PCtr P n_impl_GivesTerm [(pk l x).enc false, t'.enc] (boo (G t')) := fun x hw hx hb => by
    obtain ⟨e1, e2⟩ := askC_set hw.ask
    obtain ⟨k1, k2, k3, k4⟩ := pk_at (setF_in e1 x hx)
    refine ⟨fun t' => decide (packF (pk l x) = 0) && (decide (trmF t' = 0) && givesB (pk l x) t'), ?_, ⟨k1, by rw [List.getElem?_map, k3]; rfl⟩, fun t' => hgt (pk l x) t' (hl _ k4)⟩
    obtain ⟨t', ht', hg'⟩ := List.any_eq_true.1 hb
    exact List.any_eq_true.2 ⟨t', ht', by simp [setF_pack e1 _ k4, firstF_zeroW e2 t' ht', hg']⟩
  -- each one leans on the next one
  have hpair : ∀ x y, WhyOK l s a t (whyS l s a t) → x ∈ s → y ∈ s → nedB l y x = true → ∃ zs : List A, PCtr P n_impl_NeedersOf [encP l, .sl false 1 (s.map i64), i64 y] (.agg [i64 0, i64 0, .sl true 1 zs]) ∧ zs.map frz = zs ∧ roFree (.agg [i64 0, i64 0, .sl true 1 zs]) = true ∧ PCtr P n_laws_lwHas [.sl false 1 zs, i64 x] (boo true) := fun x y hw hx hy hb => by
    obtain ⟨e1, e2⟩ := askC_set hw.ask
    have hny : s.any (· == y) = true := List.any_eq_true.2 ⟨y, hy, by simp⟩
    have hc : nedC l s y = 0 := by unfold nedC; rw [e1, hny]; rfl
    have h1 := hnd y
    unfold setR at h1
    rw [hc] at h1
    have hln : (nedS l s y).length ≤ 1048576 := Nat.le_trans (nedS_le l s y) hsl
    have h2 := hlw (nedS l s y) x hln
    have h3 : (nedS l s y).any (· == x) = true := by
      unfold nedS
      rw [hc, if_neg (by simp)]
      exact List.any_eq_true.2 ⟨x, List.mem_filter.2 ⟨hx, hb⟩, by simp⟩
    rw [h3] at h2
    exact ⟨_, h1, frz_I _, roF_setR _ _ _, h2⟩
  have hask : WhyOK l s a t (whyS l s a t) → askC l s a = 0 := fun h => h.ask
  have horp : WhyOK l s a t (whyS l s a t) → (orpS l s a).any (· == t) = false := fun h => h.orp
  have hlast : WhyOK l s a t (whyS l s a t) → (whyS l s a t).getLast? = some t := fun h => h.last
  have hfst : WhyOK l s a t (whyS l s a t) → ∃ (x : Int) (o : Pck) (G : Trm → Bool), (whyS l s a t)[0]? = some x ∧ a.any G = true ∧ (0 ≤ x ∧ (l.map (Pck.enc false))[x.toNat]? = some (o.enc false)) ∧ ∀ t', PCtr P n_impl_GivesTerm [o.enc false, t'.enc] (boo (G t')) := fun hw => by
    obtain ⟨x, h1, h2, h3⟩ := hw.fst
    obtain ⟨G, h4, h5, h6⟩ := hfst x hw h2 h3
    exact ⟨x, pk l x, G, h1, h4, h5, h6⟩
  have hpair : WhyOK l s a t (whyS l s a t) → ∀ i x y, (whyS l s a t)[i]? = some x → (whyS l s a t)[i + 1]? = some y → ∃ zs : List A, PCtr P n_impl_NeedersOf [encP l, .sl false 1 (s.map i64), i64 y] (.agg [i64 0, i64 0, .sl true 1 zs]) ∧ zs.map frz = zs ∧ roFree (.agg [i64 0, i64 0, .sl true 1 zs]) = true ∧ PCtr P n_laws_lwHas [.sl false 1 zs, i64 x] (boo true) := fun hw i x y h1 h2 => by
    obtain ⟨q1, q2, q3⟩ := hw.pair i x y h1 h2
    exact hpair x y hw q1 q2 q3
  generalize WhyOK l s a t (whyS l s a t) = OK at *
  obtain ⟨cs, hcs⟩ : ∃ cs, cs = l.map (Pck.enc false) := ⟨_, rfl⟩
  obtain ⟨xs, hxs⟩ : ∃ ss, ss = s.map i64 := ⟨_, rfl⟩
  obtain ⟨zs, hzs⟩ : ∃ zs, zs = a.map Trm.enc := ⟨_, rfl⟩
  have hzl : zs.length = a.length := by rw [hzs, List.length_map]
  obtain ⟨W, hW⟩ : ∃ W, W = whyS l s a t := ⟨_, rfl⟩
  obtain ⟨ws, hws⟩ : ∃ ws, ws = W.map i64 := ⟨_, rfl⟩
  have hwsl : ws.length = W.length := by rw [hws, List.length_map]
  obtain ⟨os, hos⟩ : ∃ rs, rs = (orpS l s a).map i64 := ⟨_, rfl⟩
  have fW : Fw.frz (.agg [i64 (whyC l s a t), .sl true 1 ((whyS l s a t).map i64)]) = .agg [i64 (whyC l s a t), .sl false 1 ws] := by rw [frz_agg, hws, hW]; show A.agg [_, frz (A.sl true 1 _)] = _; rw [frz_sl, frz_I]; rfl
  have fO : Fw.frz (.agg [i64 (askC l s a), i64 0, .sl true 1 ((orpS l s a).map i64)]) = .agg [i64 (askC l s a), i64 0, .sl false 1 os] := by rw [frz_agg, hos]; show A.agg [_, _, frz (A.sl true 1 _)] = _; rw [frz_sl, frz_I]; rfl
  have rW : roFree (.agg [i64 (whyC l s a t), .sl true 1 ((whyS l s a t).map i64)]) = true := roF_chnR _ _
  have rO : roFree (.agg [i64 (askC l s a), i64 0, .sl true 1 ((orpS l s a).map i64)]) = true := roF_setR _ _ _
  unfold setR chnR encP at *
  rw [← hcs, ← hxs, ← hzs] at hiw hsw hio ⊢
  rw [← hcs, ← hxs] at hpair hsf
  rw [← hcs] at hfst
  rw [← hos] at hlo
  rw [← hW] at hlast hfst hpair fW rW hiw hsw hwL
  rw [← hws] at hiw hsw rW fW
  rw [← hos] at hio rO fO
  generalize (orpS l s a).any (· == t) = ob at *
  generalize whyC l s a t = C at *
  generalize askC l s a = k0 at *
  generalize setF l s = sf at *
  clear hW hos hnd hlw hgt
  cbv
  refine call_pf hΩ 3 hiw rfl (fits _) rW fW rfl ?_
  cbv
  refine call_pf hΩ 3 hio rfl (fits _) rO fO rfl ?_
  cbv
  refine br (fun g1 => ?_) (fun g1 => ?_) <;> cbv
  · have g1 : C ≠ 0 := neI_t hΩ g1
    refine ⟨VC.sub (VC_pl htab hΩ hmo (.qs [0, 1, 2, 3, 6, 7] (.s 4 (.s 5 (.qs [8, 9, 10, 11, 12, 13, 14, 15, 16] (.s 17 (.qs [18, 19, 20, 21] (.s 22 (.s 23 (.qs [24, 25, 26] (.s 27 (.q 28 (.s 29 (.s 30 (.q 31 .fin)))))))))))))) (by kernel_rfl) ?_)
      (Sbs.trans (Sbs.unlk (r := 0) rfl rfl) (Sbs.trans (Sbs.thaw0 (r := 0) rfl rfl rfl) (Sbs.trans (Sbs.unlk (r := 1) rfl rfl) (Sbs.thaw0 (r := 1) rfl rfl rfl))))⟩
    cbv
    refine call_pf hΩ 3 hsw rfl (fits _) rW fW rfl ?_
    cbv
    refine brT (eqSelf hΩ) ?_
    cbv
    refine br (fun h2 => ?_) (fun h2 => ?_)
    · cbv
      refine .of (congrArg boo ?_)
      subst hΩ
      rfl
    have h2 : C = 1 := neI_f hΩ h2
    have hob := hC1 h2
    cbv
    refine br (fun h3 => ?_) (fun h3 => ?_)
    · cbv
      exact .of (congrArg boo (by subst hΩ; rfl))
    · have h3 : k0 = 0 := neI_f hΩ (show Ω.cmp .neq k0 0 = false by subst hΩ; simpa [std] using h3)
      obtain rfl := hob h3
      cbv
      refine call_pure hΩ 3 hlo rfl (fits _) rfl rfl ?_
      cbv
      refine brT (by subst hΩ; rfl) ?_
      cbv
      exact .of (congrArg boo (by subst hΩ; rfl))
  · have g1 : C = 0 := neI_f hΩ g1
    have hok := hC0 g1
    have hk0 := hask hok
    have hob := horp hok
    obtain ⟨x, o, G, hW0, haG, ⟨hx0, hxo⟩, hG⟩ := hfst hok
    have hlast := hlast hok
    have hpair := hpair hok
    obtain ⟨n, hn⟩ : ∃ n, W.length = n + 1 := by
      cases e : W with
      | nil => rw [e] at hlast; cases hlast
      | cons x w => exact ⟨w.length, rfl⟩
    have hWn : W[n]? = some t := by rw [← hlast, List.getLast?_eq_getElem?, hn]; rfl
    have hln : Ω.int (Ω.len ws) = (n : Int) + 1 := by subst hΩ; show ((ws.length : Nat) : Int) = _; rw [hwsl, hn]; omega
    have hln0 : Ω.int (Ω.len ws) ≠ 0 := by rw [hln]; omega
    have hsub : Ω.ar .sub .i64 (Ω.int (Ω.len ws)) 1 = (n : Int) := by
      rw [hln]
      subst hΩ
      show IntKind.i64.wrap ((n : Int) + 1 - 1) = _
      rw [wrap64 (by omega) (by omega)]
      omega
    have hsub0 : 0 ≤ Ω.ar .sub .i64 (Ω.int (Ω.len ws)) 1 := by rw [hsub]; omega
    have hwn : ws[(Ω.ar .sub .i64 (Ω.int (Ω.len ws)) 1).toNat]? = some (i64 t) := by
      rw [hsub, hws, List.getElem?_map]
      show Option.map i64 W[n]? = _
      rw [hWn]; rfl
    have hw0 : ws[(0 : Int).toNat]? = some (i64 x) := by
      rw [hws, List.getElem?_map]
      show Option.map i64 W[0]? = _
      rw [hW0]; rfl
    obtain ⟨kf, hkf⟩ : ∃ kf : Nat → Int, kf = fun (m : Nat) => (m : Int) + 1 := ⟨_, rfl⟩
    have hkf0 : kf 0 = 1 := by rw [hkf]; rfl
    have hkfs : ∀ m, m < 2000000 → Ω.ar .add .i64 (kf m) 1 = kf (m + 1) := fun m h => by
      rw [hkf]
      subst hΩ
      show IntKind.i64.wrap ((m : Int) + 1 + 1) = _
      rw [wrap64 (by omega) (by omega)]
      simp only
      omega
    have hkl : ∀ m, Ω.cmp .lss (kf m) (Ω.int (Ω.len ws)) = true → m < n := fun m h => by
      have h1 := ltI_t hΩ h
      rw [hkf, hln] at h1
      simp only at h1
      omega
    have hkr : ∀ m, m < n → (0 ≤ kf m ∧ 0 ≤ Ω.ar .sub .i64 (kf m) 1) ∧ ∃ u v, W[m]? = some u ∧ W[m + 1]? = some v ∧ ws[(kf m).toNat]? = some (i64 v) ∧ ws[(Ω.ar .sub .i64 (kf m) 1).toNat]? = some (i64 u) := fun m h => by
      have hs : Ω.ar .sub .i64 (kf m) 1 = (m : Int) := by
        rw [hkf]
        subst hΩ
        show IntKind.i64.wrap ((m : Int) + 1 - 1) = _
        rw [wrap64 (by omega) (by omega)]
        omega
      obtain ⟨u, hu⟩ := at_of (cs := W) (show m < W.length by omega)
      obtain ⟨v, hv⟩ := at_of (cs := W) (show m + 1 < W.length by omega)
      have hk1 : (kf m).toNat = m + 1 := by rw [hkf]; simp only; omega
      refine ⟨⟨by rw [hkf]; simp only; omega, by rw [hs]; omega⟩, u, v, hu, hv, ?_, ?_⟩
      · rw [hk1, hws, List.getElem?_map, hv]; rfl
      · rw [hs, hws, List.getElem?_map]
        show Option.map i64 W[m]? = _
        rw [hu]; rfl
    clear hkf
    refine brF (eqNe hΩ hln0) ?_
    cbv
    refine ⟨⟨hsub0⟩, _, hwn, ?_⟩
    cbv
    have hnt : Ω.ite false true (Ω.cmp .neq t t) = false := by rw [neSelf hΩ]; subst hΩ; rfl
    refine brF hnt ?_
    cbv
    rw [hob] at hlo
    refine call_pure hΩ 3 hlo rfl (fits _) rfl rfl ?_
    cbv
    refine brF (by subst hΩ; rfl) ?_
    cbv
    obtain ⟨Fi, hFi⟩ : ∃ Fi : Nat → Bool, Fi = fun i => (a.take i).any G := ⟨_, rfl⟩
    have hF0 : Fi 0 = false := by rw [hFi]; rfl
    have hFn : Fi a.length = true := by rw [hFi]; simp only; rw [List.take_length]; exact haG
    have hFs : ∀ i c, a[i]? = some c → Fi (i + 1) = (Fi i || G c) := fun i c h => by
      rw [hFi]
      simp only
      rw [List.take_add_one, h, List.any_append]
      simp
    have hzat : ∀ i c, a[i]? = some c → zs[(Ω.int i).toNat]? = some c.enc := fun i c h => rdI hΩ hzs h
    obtain ⟨ps1, ds1, bs1, hen, _, _, _⟩ := enc_raw o
    rw [hen] at hxo
    rw [hen] at hG
    obtain ⟨nz, hnz⟩ : ∃ nz, nz = a.length := ⟨_, rfl⟩
    rw [← hnz] at hFn
    clear hFi hfst
    refine loopX htab hΩ (fun i : Nat => ⟨[(3, .sl false 8 cs), (4, .sl false 1 xs), (5, .sl false 7 zs), (6, i64 t), (7, .rp [i64 C, .sl false 1 ws]), (9, i64 (Ω.int (Ω.len ws))), (10, boo (Fi i)), (11, i64 (Ω.int i))], 130, []⟩) (fun i => i ≤ nz) (fun i => nz - i) 0 (Nat.zero_le _)
      (Sbs.trans (Sbs.unlk (r := 0) rfl rfl) (Sbs.trans (Sbs.thaw0 (r := 0) rfl rfl rfl) (Sbs.trans (Sbs.cut 0 rfl) (Sbs.mk rfl rfl ⟨rfl, rfl, rfl, rfl, rfl, rfl, congrArg boo hF0.symm, zeroI hΩ, trivial⟩)))) ?_
    intro i hi
    have hFs := hFs i
    have hzat := hzat i
    obtain ⟨f, hf⟩ : ∃ f, Fi i = f := ⟨_, rfl⟩
    rw [hf] at hFs ⊢
    cbv
    refine br (fun h1 => ?_) (fun h1 => ?_) <;> cbv
    · replace h1 := ltI hΩ h1
      obtain ⟨c, hc⟩ := at_of (cs := a) (show i < a.length by omega)
      have hFs := hFs c hc
      have hzc := hzat c hc
      have hGc := hG c
      refine ⟨VC_pl htab hΩ hmo (.qs [0, 1, 2, 3, 4, 5, 6, 7, 8, 9, 10, 11, 12] (.s 13 (.s 14 (.q 15 .fin)))) (by kernel_rfl) ?_⟩
      cbv
      refine br (fun g2 => ?_) (fun g2 => ?_)
      · cbv
        exact ⟨i + 1, by omega, by omega, Sbs.mk rfl rfl ⟨rfl, rfl, rfl, rfl, rfl, rfl, congrArg boo (by rw [hFs, g2]; subst hΩ; rfl), incI hΩ (by omega), trivial⟩⟩
      · cbv
        refine ⟨⟨Int.le_refl 0⟩, _, hw0, ?_⟩
        cbv
        refine ⟨⟨hx0⟩, _, hxo, ?_⟩
        cbv
        refine ⟨⟨nnI hΩ⟩, _, hzc, ?_⟩
        cbv
        refine call_pure hΩ 5 hGc rfl (fits _) rfl rfl ?_
        cbv
        exact ⟨i + 1, by omega, by omega, Sbs.mk rfl rfl ⟨rfl, rfl, rfl, rfl, rfl, rfl, congrArg boo (by rw [hFs, g2]; subst hΩ; rfl), incI hΩ (by omega), trivial⟩⟩
    · have hin : i = nz := by have := geI hΩ h1; omega
      rw [hin, hFn] at hf
      subst hf
      refine loopX htab hΩ (fun m : Nat => ⟨[(3, .sl false 8 cs), (4, .sl false 1 xs), (7, .rp [i64 C, .sl false 1 ws]), (9, i64 (Ω.int (Ω.len ws))), (10, boo true), (12, i64 (kf m))], 130, []⟩) (fun m => m ≤ n) (fun m => n - m) 0 (Nat.zero_le _)
        (Sbs.mk rfl rfl ⟨rfl, rfl, rfl, rfl, rfl, congrArg i64 hkf0.symm, trivial⟩) ?_
      intro m hm
      have hkl := hkl m
      have hkr := hkr m
      have hkfs := hkfs m (by omega)
      have hpm := hpair m
      cbv
      refine br (fun h2 => ?_) (fun h2 => ?_) <;> cbv
      · replace h2 := hkl h2
        obtain ⟨⟨k1, k2⟩, u, v, hu, hv, k3, k4⟩ := hkr h2
        obtain ⟨ys, y1, y2, y3, y4⟩ := hpm u v hu hv
        have y5 : Fw.frz (.agg [i64 0, i64 0, .sl true 1 ys]) = .agg [i64 0, i64 0, .sl false 1 ys] := by rw [frz_agg]; show A.agg [_, _, frz (A.sl true 1 ys)] = _; rw [frz_sl, y2]; rfl
        refine ⟨VC_pl htab hΩ hmo (.qs [0, 1, 2, 3, 4, 5, 6, 9, 10, 11] (.two 7 (.two 8 (.s 12 (.qs [13, 14] (.s 15 (.s 16 .fin)))) 12 (.qs [13, 14] (.s 8 (.s 15 (.s 16 .fin))))) 12 (.qs [13, 14] (.s 7 (.s 8 (.s 15 (.s 16 .fin))))))) (by kernel_rfl) ?_⟩
        cbv
        refine ⟨⟨k1⟩, _, k3, ?_⟩
        cbv
        repeat' (first | (refine ⟨⟨k2⟩, _, k4, ?_⟩; cbv) | (refine call_pf hΩ 3 y1 rfl (fits _) y3 y5 rfl ?_; cbv) | (refine call_pure hΩ 3 y4 rfl (fits _) rfl rfl ?_; cbv) | (refine brF (notTF hΩ) ?_; cbv) | (exact ⟨m + 1, by omega, by omega, Sbs.mk rfl rfl ⟨rfl, rfl, rfl, rfl, rfl, congrArg i64 hkfs, trivial⟩⟩) | (refine And.intro ?_ ?_))
      · exact .same
end Go.Proofs.YtomfmdfamlmfiaaGreat

/- What a reading of an argument says of it: it is read-only plain data. Plain theorems, no condition. -/
set_option linter.unusedVariables false
set_option linter.unusedSimpArgs false
namespace Go.Fw
/-- Types of plain data. -/
inductive Ty where
  | int (k : IntKind)
  | bool
  | str
  | sl (e : Ty)
  | st (fs : List Ty)
mutual
def Ty.n : Ty → Nat
  | .st fs => Ty.nL fs
  | .int _ => 1
  | .bool => 1
  | .str => 1
  | .sl _ => 1
def Ty.nL : List Ty → Nat
  | [] => 0
  | x :: xs => x.n + Ty.nL xs
end
def Ty.elem (e : Ty) (cs : List A) : A :=
  match e with
  | .st _ => .agg cs
  | _ => cs.headD .un
mutual
def TyOK (P : Program) : Ty → TypeId → Prop
  | .int k, t => P.underlying t = some (.int k)
  | .bool, t => P.underlying t = some .bool
  | .str, t => P.underlying t = some .string
  | .sl e, t => ∃ te, P.underlying t = some (.slice te) ∧ P.cellsOf te = e.n ∧ Nat.ble 1 e.n = true ∧ TyOK P e te
  | .st fs, t => ∃ f, P.underlying t = some (.struct f) ∧ P.cellsOf t = Ty.nL fs ∧ TysOK P 0 fs f.toList
def TysOK (P : Program) : Nat → List Ty → List Field → Prop
  | _, [], [] => True
  | o, x :: xs, f :: fs => f.offset = o ∧ P.cellsOf f.type = x.n ∧ TyOK P x f.type ∧ TysOK P (o + x.n) xs fs
  | _, _, _ => False
end
mutual
inductive Shp : Ty → List A → Prop
  | int {k : IntKind} {n : Int} (h : (Lit.int k n).wf = true) : Shp (.int k) [.sc (.int k n)]
  | bool {b : Bool} : Shp .bool [.sc (.bool b)]
  | str {s : List UInt8} (h : s.length ≤ maxLen) : Shp .str [.sc (.string (mkS s))]
  | sl {e : Ty} {ys : List A} (h : ∀ y ∈ ys, Shp e y.cells) (h2 : ∀ y ∈ ys, y = e.elem y.cells) (hl : ys.length ≤ maxLen) : Shp (.sl e) [.sl false e.n ys]
  | st {fs : List Ty} {xs : List A} (h : ShpL fs xs) : Shp (.st fs) xs
inductive ShpL : List Ty → List A → Prop
  | nil : ShpL [] []
  | cons {t : Ty} {ts : List Ty} {xs ys : List A} (h : Shp t xs) (hl : ShpL ts ys) : ShpL (t :: ts) (xs ++ ys)
end
mutual
theorem Shp.length : ∀ {t : Ty} {xs : List A}, Shp t xs → xs.length = t.n
  | _, _, .int _ => rfl
  | _, _, .bool => rfl
  | _, _, .str _ => rfl
  | _, _, .sl _ _ _ => rfl
  | _, _, .st h => by rw [Ty.n]; exact h.length
theorem ShpL.length : ∀ {ts : List Ty} {xs : List A}, ShpL ts xs → xs.length = Ty.nL ts
  | _, _, .nil => rfl
  | _, _, .cons h hl => by rw [List.length_append, h.length, hl.length, Ty.nL]
end
theorem elem_cells {e : Ty} {cs : List A} (h : Shp e cs) : (e.elem cs).cells = cs := by
  cases h <;> rfl
theorem cells_list {w : World} {base : Nat} {a : Addr} {n : Nat} {cs : List Value} (h : w.cells? base a n = some cs) (hn : 0 < n) :
    ∃ cur e fr, w.heap[a.block]? = some (.cells cur e fr) ∧ a.spot = none ∧ cs = (cur.toList.drop a.off).take n ∧ cs.length = n := by
  unfold World.cells? at h
  split at h <;> try simp at h
  have hget : ∀ (l : List Nat) (r : List Value), l.mapM (fun i => w.cell? (a.add i)) = some r → r.length = l.length ∧ ∀ (j i : Nat), l[j]? = some i → ∃ v, r[j]? = some v ∧ w.cell? (a.add i) = some v := by
    intro l
    induction l with
    | nil => intro r h; simp at h; subst h; simp
    | cons x l ih =>
      intro r h
      simp only [List.mapM_cons, Option.bind_eq_bind, Option.pure_def, Option.bind_eq_some_iff, Option.some.injEq] at h
      obtain ⟨v, hv, r', hr', rfl⟩ := h
      obtain ⟨h1, h2⟩ := ih r' hr'
      refine ⟨by simp [h1], fun j i hj => ?_⟩
      cases j with
      | zero => simp at hj; subst hj; exact ⟨v, rfl, hv⟩
      | succ j => simpa using h2 j i (by simpa using hj)
  obtain ⟨hl, hat⟩ := hget _ _ h
  rw [List.length_range] at hl
  obtain ⟨v0, _, hv0⟩ := hat 0 0 (by rw [List.getElem?_range hn])
  have hblk : ∀ i, (a.add i).block = a.block := fun i => by unfold Addr.add; split <;> rfl
  unfold World.cell? at hv0
  rw [hblk] at hv0
  split at hv0 <;> try simp at hv0
  rename_i cur e fr hh
  have hsp : a.spot = none := by
    cases hs : a.spot with
    | none => rfl
    | some s => simp [Addr.add, hs] at hv0
  refine ⟨cur, e, fr, hh, hsp, ?_, hl⟩
  have ha : a = ⟨a.block, a.off, none⟩ := by cases a; simp at hsp; subst hsp; rfl
  have hcell : ∀ i, w.cell? (a.add i) = cur[a.off + i]? := fun i => by rw [ha, add_none, cell_at hh]
  have hlen : a.off + n ≤ cur.size := by
    obtain ⟨v, _, hv⟩ := hat (n - 1) (n - 1) (by rw [List.getElem?_range (by omega)])
    rw [hcell] at hv
    have := (Array.getElem?_eq_some_iff.1 hv).1
    omega
  apply List.ext_getElem?
  intro j
  by_cases hj : j < n
  · obtain ⟨v, hv1, hv2⟩ := hat j j (by rw [List.getElem?_range hj])
    rw [hv1, List.getElem?_take_of_lt hj, List.getElem?_drop]
    rw [hcell] at hv2
    simpa using hv2.symm
  · rw [List.getElem?_eq_none (by omega), List.getElem?_eq_none (by simp; omega)]
theorem add_block (a : Addr) (i : Nat) : (a.add i).block = a.block := by unfold Addr.add; split <;> rfl
theorem rows_rel {w : World} {G : Nat → Prop} {n : Nat} {X : Nat → List A} {l : List Value} : ∀ len : Nat, (∀ i, i < len → RelL w G (X i) ((l.drop (i * n)).take n) []) → RelL w G ((List.range len).flatMap X) (l.take (len * n)) []
  | 0, _ => by simpa using RelL.nil
  | len + 1, h => by
    have h1 := rows_rel (X := X) len fun i hi => h i (by omega)
    have h2 := h1.append (h len (by omega))
    rw [List.range_succ, List.flatMap_append, Nat.succ_mul, List.take_add]
    simpa using h2
mutual
theorem trod_rel {H : Type} {enc : TypeId × Value → H} {P : Program} {w : World} {base : Nat} {sp : Nat → Bool} {held : Bool} (hsp : ∀ b, sp b = true) :
    ∀ (ty : Ty) (t : TypeId) (fuel : Nat) (cs : List Value) (x : DataW H × List MemPlace), TyOK P ty t → DataW.trod enc P w base sp held fuel t cs = some x → ∃ xs, RelL w (Old w) xs cs [] ∧ Shp ty xs
  | .int k, t, 0, cs, x, hu, h => by simp [DataW.trod] at h
  | .int k, t, fuel + 1, cs, x, hu, h => by
    have hu : P.underlying t = some (.int k) := hu
    unfold DataW.trod at h
    rw [hu] at h
    split at h <;> try simp_all
    obtain ⟨⟨rfl, hw⟩, _⟩ := h
    exact ⟨_, .cons (F := []) (Fs := []) (.sc rfl) .nil, .int hw⟩
  | .bool, t, 0, cs, x, hu, h => by simp [DataW.trod] at h
  | .bool, t, fuel + 1, cs, x, hu, h => by
    have hu : P.underlying t = some .bool := hu
    unfold DataW.trod at h
    rw [hu] at h
    split at h <;> try simp_all
    exact ⟨_, .cons (F := []) (Fs := []) (.sc rfl) .nil, .bool⟩
  | .str, t, 0, cs, x, hu, h => by simp [DataW.trod] at h
  | .str, t, fuel + 1, cs, x, hu, h => by
    have hu : P.underlying t = some .string := hu
    unfold DataW.trod at h
    rw [hu] at h
    split at h <;> try simp_all
    rename_i s
    refine ⟨[.sc (.string (mkS (bs s)))], .cons (F := []) (Fs := []) (.sc rfl) .nil, .str ?_⟩
    rw [bs_length]; exact h.1
  | .sl e, t, fuel, cs, x, hu, h => by
    obtain ⟨te, hu, hc, hpos, hte⟩ := hu
    have hpos := Nat.le_of_ble_eq_true hpos
    rcases Go.Deep.open_slice hu h with ⟨rfl, _⟩ | ⟨a, len, cap, m, n, D, Pl, rfl, _, hl, hm, hmm, _, hel⟩
    · exact ⟨[.sl false e.n []], .cons (F := []) (Fs := []) .nils .nil, .sl (by simp) (by simp) (by simp)⟩
    · rw [hsp, if_pos rfl] at hmm
      subst hmm
      rw [hc] at hel
      by_cases hm0 : m = 0
      · subst hm0
        have : len = 0 := by omega
        subst this
        exact ⟨[.sl false e.n []], .cons (F := []) (Fs := []) .roz .nil, .sl (by simp) (by simp) (by simp)⟩
      · obtain ⟨cs0, hc0, _⟩ := hel 0 (by omega)
        obtain ⟨cur, et, fr, hh, hspot, _, _⟩ := cells_list hc0 hpos
        rw [add_block] at hh
        have hspot' : a.spot = none := by
          cases hs : a.spot with
          | none => rfl
          | some s => simp [Addr.add, hs] at hspot
        have ha : a = ⟨a.block, a.off, none⟩ := by cases a; simp at hspot'; subst hspot'; rfl
        have hX : ∀ i, i < m → ∃ xs, RelL w (Old w) xs ((cur.toList.drop (a.off + i * e.n)).take e.n) [] ∧ Shp e xs := fun i hi => by
          obtain ⟨csi, hci, hti⟩ := hel i hi
          obtain ⟨cur', et', fr', hh', _, hcs, _⟩ := cells_list hci hpos
          rw [add_block, hh] at hh'
          simp only [Option.some.injEq, Obj.cells.injEq] at hh'
          obtain ⟨rfl, _, _⟩ := hh'
          obtain ⟨xs, h1, h2⟩ := trod_rel hsp e te n csi _ hte hti
          refine ⟨xs, ?_, h2⟩
          rw [hcs] at h1
          have : (a.add (i * e.n)).off = a.off + i * e.n := by rw [ha, add_none]
          rw [this] at h1
          exact h1
        let X : Nat → List A := fun i => if h : i < m then Classical.choose (hX i h) else []
        have hX1 : ∀ i, i < m → RelL w (Old w) (X i) ((cur.toList.drop (a.off + i * e.n)).take e.n) [] ∧ Shp e (X i) := fun i hi => by
          have : X i = Classical.choose (hX i hi) := by simp only [X]; rw [dif_pos hi]
          rw [this]; exact Classical.choose_spec (hX i hi)
        have hmem : ∀ y ∈ (List.range len).map fun i => e.elem (X i), Shp e y.cells ∧ y = e.elem y.cells := fun y hy => by
          obtain ⟨i, hi, rfl⟩ := List.mem_map.1 hy
          have hi := List.mem_range.1 hi
          have hs := (hX1 i (by omega)).2
          rw [elem_cells hs]
          exact ⟨hs, rfl⟩
        refine ⟨[.sl false e.n ((List.range len).map fun i => e.elem (X i))], .cons (F := []) (Fs := []) ?_ .nil, .sl (fun y hy => (hmem y hy).1) (fun y hy => (hmem y hy).2) (by simp; omega)⟩
        have hlt : a.block < w.heap.size := (Array.getElem?_eq_some_iff.1 hh).1
        rw [ha]
        refine .ro hh hlt (fun y hy => ?_) (by simp) rfl ?_ (by omega) (by omega)
        · have := (hmem y hy).1.length
          exact this
        · have hf : flat ((List.range len).map fun i => e.elem (X i)) = (List.range len).flatMap X := by
            unfold flat
            rw [List.flatMap_map]
            have : ∀ l : List Nat, (∀ i ∈ l, i < m) → l.flatMap (fun i => (e.elem (X i)).cells) = l.flatMap X := by
              intro l
              induction l with
              | nil => intro _; rfl
              | cons i l ih =>
                intro hl
                rw [List.flatMap_cons, List.flatMap_cons, ih fun j hj => hl j (by simp [hj]), elem_cells (hX1 i (hl i (by simp))).2]
            exact this _ fun i hi => by have := List.mem_range.1 hi; omega
          rw [hf]
          refine rows_rel len fun i hi => ?_
          have := (hX1 i (by omega)).1
          rw [← List.drop_drop] at this
          exact this
  | .st fs, t, 0, cs, x, hu, h => by simp [DataW.trod] at h
  | .st fs, t, fuel + 1, cs, x, hu, h => by
    obtain ⟨f, hu, hc, hfs⟩ := hu
    unfold DataW.trod at h
    rw [hu] at h
    simp only at h
    split at h <;> try simp at h
    rename_i hlen
    obtain ⟨ys, hys, _⟩ := h
    obtain ⟨xs, h1, h2⟩ := trod_rels hsp fs f.toList fuel 0 cs ys hfs (by rw [hlen, hc]; omega) hys
    exact ⟨xs, by simpa using h1, .st h2⟩
theorem trod_rels {H : Type} {enc : TypeId × Value → H} {P : Program} {w : World} {base : Nat} {sp : Nat → Bool} {held : Bool} (hsp : ∀ b, sp b = true) :
    ∀ (tys : List Ty) (fs : List Field) (fuel o : Nat) (cs : List Value) (ys : List (DataW H × List MemPlace)), TysOK P o tys fs → cs.length = o + Ty.nL tys →
      fs.mapM (fun f => DataW.trod enc P w base sp held fuel f.type ((cs.drop f.offset).take (P.cellsOf f.type))) = some ys → ∃ xs, RelL w (Old w) xs (cs.drop o) [] ∧ ShpL tys xs
  | [], [], fuel, o, cs, ys, _, hl, _ => ⟨[], by rw [List.drop_eq_nil_of_le (by rw [hl, Ty.nL]; omega)]; exact .nil, .nil⟩
  | [], _ :: _, fuel, o, cs, ys, hu, hl, h => hu.elim
  | _ :: _, [], fuel, o, cs, ys, hu, hl, h => hu.elim
  | ty :: tys, f :: fs, fuel, o, cs, ys, hu, hl, h => by
    obtain ⟨ho, hc, ht, hts⟩ := hu
    simp only [List.mapM_cons, Option.bind_eq_bind, Option.pure_def, Option.bind_eq_some_iff, Option.some.injEq] at h
    obtain ⟨y, hy, ys', hys', _⟩ := h
    rw [ho, hc] at hy
    obtain ⟨xs1, h1, h2⟩ := trod_rel hsp ty f.type fuel _ _ ht hy
    rw [Ty.nL] at hl
    obtain ⟨xs2, h3, h4⟩ := trod_rels hsp tys fs fuel (o + ty.n) cs ys' hts (by omega) hys'
    refine ⟨xs1 ++ xs2, ?_, .cons h2 h4⟩
    have := h1.append h3
    rw [← List.drop_drop, List.take_append_drop] at this
    simpa using this
end
end Go.Fw

/- The closing of a law's row. Plain theorems, no condition. -/
set_option linter.unusedVariables false
set_option linter.unusedSimpArgs false
namespace Go.Fw
open Go.ChangeShapes Go.WideShapes Go.ChangeAt Go.RowKit
def PlainT (P : Program) (t : TypeId) : Prop := ∃ ty, TyOK P ty t
theorem tys_fields {P : Program} : ∀ {tys : List Ty} {fs : List Field} {o : Nat}, TysOK P o tys fs → (∀ f ∈ fs, PlainT P f.type) ∧ Ty.nL tys = (fs.map fun f => P.cellsOf f.type).sum ∧
    ∀ (j : Nat) f, fs[j]? = some f → f.offset = o + ((fs.take j).map fun f => P.cellsOf f.type).sum
  | [], [], o, _ => ⟨by simp, rfl, by simp⟩
  | [], _ :: _, o, h => h.elim
  | _ :: _, [], o, h => h.elim
  | ty :: tys, f :: fs, o, h => by
    obtain ⟨h1, h2, h3, h4⟩ := h
    obtain ⟨g1, g2, g3⟩ := tys_fields h4
    refine ⟨fun f' hf => ?_, by rw [Ty.nL, g2, ← h2]; simp, fun j f' hj => ?_⟩
    · rcases List.mem_cons.1 hf with rfl | hf
      · exact ⟨ty, h3⟩
      · exact g1 f' hf
    · cases j with
      | zero => simp at hj; subst hj; simp [h1]
      | succ j =>
        have := g3 j f' (by simpa using hj)
        rw [this, ← h2]; simp; omega
theorem kids (P : Program) : Kids P (PlainT P) := by
  refine ⟨?_, ?_, ?_, ?_, ?_⟩
  · rintro t e ⟨ty, h⟩ hu
    cases ty with
    | sl _ => obtain ⟨te, h, _⟩ := h; rw [hu] at h; simp at h
    | st _ => obtain ⟨f, h, _⟩ := h; rw [hu] at h; simp at h
    | _ => rw [TyOK, hu] at h; simp at h
  · rintro t e ⟨ty, h⟩ hu
    cases ty with
    | sl e' => obtain ⟨te, h, _, _, h2⟩ := h; rw [hu] at h; simp at h; subst h; exact ⟨e', h2⟩
    | st _ => obtain ⟨f, h, _⟩ := h; rw [hu] at h; simp at h
    | _ => rw [TyOK, hu] at h; simp at h
  · rintro t e n ⟨ty, h⟩ hu
    cases ty with
    | sl _ => obtain ⟨te, h, _⟩ := h; rw [hu] at h; simp at h
    | st _ => obtain ⟨f, h, _⟩ := h; rw [hu] at h; simp at h
    | _ => rw [TyOK, hu] at h; simp at h
  · rintro t fs ⟨ty, h⟩ hu
    cases ty with
    | sl _ => obtain ⟨te, h, _⟩ := h; rw [hu] at h; simp at h
    | st tys =>
      obtain ⟨f, h, hc, hts⟩ := h
      rw [hu] at h
      simp at h
      subst h
      obtain ⟨g1, g2, g3⟩ := tys_fields hts
      exact ⟨g1, by rw [hc, g2], fun j f hj => by rw [g3 j f hj, Nat.zero_add]⟩
    | _ => rw [TyOK, hu] at h; simp at h
  · rintro t k e ⟨ty, h⟩ hu
    cases ty with
    | sl _ => obtain ⟨te, h, _⟩ := h; rw [hu] at h; simp at h
    | st _ => obtain ⟨f, h, _⟩ := h; rw [hu] at h; simp at h
    | _ => rw [TyOK, hu] at h; simp at h
theorem plain_sz {P : Program} {t e : TypeId} (h : PlainT P t) (hu : P.underlying t = some (.slice e)) : 0 < P.cellsOf e := by
  obtain ⟨ty, h⟩ := h
  cases ty with
  | sl _ => obtain ⟨te, h, hc, hb, _⟩ := h; rw [hu] at h; simp at h; subst h; rw [hc]; exact Nat.le_of_ble_eq_true hb
  | st _ => obtain ⟨f, h, _⟩ := h; rw [hu] at h; simp at h
  | _ => rw [TyOK, hu] at h; simp at h
section
variable {H : Type} {enc : TypeId × Value → H} {P : Program}
theorem stays_all {W W' : World} {sp' : Nat → Bool} : ∀ {ts : List TypeId} {vs : List Value} {ds : List (DataW H)} {ps : List MemPlace}, (∀ t ∈ ts, PlainT P t) → DataW.TrodAll enc P W 0 (fun _ => true) true ts vs ds ps →
    (∀ p ∈ ps, W.sameAt W' p) → (∀ p ∈ ps, sp' p.block = true) → DataW.TrodAll enc P W' 0 sp' true ts vs ds ps
  | [], [], [], ps, _, h, _, _ => h
  | t :: ts, v :: vs, d :: ds, ps, ht, h, hsame, hs => by
    obtain ⟨p, q, ⟨n, hn⟩, hl, rfl⟩ := h
    refine ⟨p, q, ⟨n, ?_⟩, stays_all (fun t h => ht t (by simp [h])) hl (fun x hx => hsame x (by simp [hx])) (fun x hx => hs x (by simp [hx])), rfl⟩
    exact DataW.trod_stays (kids P) plain_sz (by simp) (ht t (by simp)) hn (fun x hx => hsame x (by simp [hx])) (fun x hx => hs x (by simp [hx]))
theorem post_law {f : Func} {s : ChangeSpec} {apart fresh handsOn again : Bool} {W W' : World} {args : Array Value} {ds gs : List (DataW H)} {before : List MemPlace} {tb : TypeId} (hsv : s.vars = [])
    (hW : DataW.Whole enc P f.params.toList s.vars apart W args.toList ds gs before) (htys : ∀ t ∈ f.params.toList, PlainT P t) (hrt : f.resultTypes = #[tb]) (hub : P.underlying tb = some .bool)
    (hfn : s.fn H (ds ++ gs) = { results := [.lit (.bool true)], args := ds }) (hb : Below W.heap.size W W') : s.post enc P f apart fresh handsOn again W args (.bool true) W' := by
  have hW0 := hW
  obtain ⟨p, q, hA, hV, rfl, hfz, hnd⟩ := hW
  rw [hsv] at hV
  obtain ⟨rfl, rfl⟩ := trodVars_none hV
  rw [List.append_nil] at hfz hnd hW0
  have hlt := hW0.lt
  have hsame : ∀ x ∈ p, W.sameAt W' x := fun x hx => hb.same (hlt x hx)
  have hres : ∀ (b : Nat) (sp : Nat → Bool) (hd : Bool), DataW.TrodAll enc P W' b sp hd f.resultTypes.toList ((Value.bool true).resultList f.resultTypes.size) (s.fn H (ds ++ [])).results [] := fun b sp hd => by
    rw [hfn, hrt]
    exact trodAll_cons_mk (shut_bool hub _) trodAll_mk0
  have hargs : ∀ sp : Nat → Bool, (∀ x ∈ p, sp x.block = true) → DataW.TrodAll enc P W' 0 sp true f.params.toList args.toList (s.fn H (ds ++ [])).args p := fun sp hs => by
    rw [hfn]; exact stays_all htys hA hsame hs
  have hvars : ∀ sp : Nat → Bool, DataW.TrodVars enc P W' sp s.vars (s.fn H (ds ++ [])).vars [] := fun sp => by rw [hfn, hsv]; rfl
  have hold : ∀ x ∈ p, (fun b => decide (b < W.heap.size)) x.block = true := fun x hx => by simpa using hlt x hx
  refine ⟨ds, [], p, [], p, [], hW0, hres _ _ _, hargs _ hold, hvars _, World.keptBut_mono (fun x hx => ⟨hx, .inr (.inl hx)⟩) (hb.frame (· ∈ p)), fun _ => ?_⟩
  refine ⟨?_, _, _, ([] ++ p) ++ [], ⟨[] ++ p, [], trodAll_append (hargs _ (fun _ _ => rfl)) (hres 0 (fun _ => true) true), hvars _, rfl, ?_, ?_⟩, ?_⟩
  · intro j t r h1 h2
    exact ok_one (v := .bool true) hrt rfl (okWide_bool_mk hub true) j t r h1 h2
  · intro b off hp
    have hp' : MemPlace.cell b off ∈ p := by simpa using hp
    rw [hb.frozen (p := ⟨b, off, none⟩) (hlt _ hp')]
    exact hfz b off hp'
  · intro ha
    simpa using hnd ha
  · intro x hx _
    simpa using hx
end
mutual
def tyChk (P : Program) : Ty → TypeId → Bool
  | .int k, t => match P.underlying t with | some (.int k') => decide (k' = k) | _ => false
  | .bool, t => match P.underlying t with | some .bool => true | _ => false
  | .str, t => match P.underlying t with | some .string => true | _ => false
  | .sl e, t => match P.underlying t with | some (.slice te) => P.cellsOf te == e.n && (Nat.ble 1 e.n && tyChk P e te) | _ => false
  | .st fs, t => match P.underlying t with | some (.struct f) => P.cellsOf t == Ty.nL fs && tysChk P 0 fs f.toList | _ => false
def tysChk (P : Program) : Nat → List Ty → List Field → Bool
  | _, [], [] => true
  | o, x :: xs, f :: fs => f.offset == o && (P.cellsOf f.type == x.n && (tyChk P x f.type && tysChk P (o + x.n) xs fs))
  | _, _, _ => false
end
mutual
theorem tyChk_ok {P : Program} : ∀ (ty : Ty) (t : TypeId), tyChk P ty t = true → TyOK P ty t
  | .int k, t, h => by
    rw [tyChk] at h; split at h <;> try simp at h
    rename_i hu; subst h; rw [TyOK]; exact hu
  | .bool, t, h => by
    rw [tyChk] at h; split at h <;> try simp at h
    rename_i hu; rw [TyOK]; exact hu
  | .str, t, h => by
    rw [tyChk] at h; split at h <;> try simp at h
    rename_i hu; rw [TyOK]; exact hu
  | .sl e, t, h => by
    rw [tyChk] at h; split at h <;> try simp at h
    rename_i te hu; rw [TyOK]
    exact ⟨te, hu, h.1, by simpa using h.2.1, tyChk_ok e te h.2.2⟩
  | .st fs, t, h => by
    rw [tyChk] at h; split at h <;> try simp at h
    rename_i f hu; rw [TyOK]
    exact ⟨f, hu, h.1, tysChk_ok fs _ _ h.2⟩
theorem tysChk_ok {P : Program} : ∀ (tys : List Ty) (o : Nat) (fs : List Field), tysChk P o tys fs = true → TysOK P o tys fs
  | [], _, [], _ => by rw [TysOK]; trivial
  | [], _, _ :: _, h => by simp [tysChk] at h
  | _ :: _, _, [], h => by simp [tysChk] at h
  | x :: xs, o, f :: fs, h => by
    rw [tysChk] at h
    simp only [Bool.and_eq_true, beq_iff_eq] at h
    rw [TysOK]
    exact ⟨h.1, h.2.1, tyChk_ok x _ h.2.2.1, tysChk_ok xs _ fs h.2.2.2⟩
end
theorem slice_cells {P : Program} {W : World} {base : Nat} {t e : TypeId} {v : Value} (hu : P.underlying t = some (.slice e)) (h : Value.okWide P W .any base t v) : v.cells.toList = [v] := by
  unfold Value.okWide at h
  rw [hu] at h
  simp only at h
  unfold Cell.okWide at h
  rw [hu] at h
  cases v <;> first | rfl | (simp [Cell.ok, hu] at h)
end Go.Fw

/- Shapes of arguments. Plain theorems. -/
set_option linter.unusedVariables false
set_option linter.unusedSimpArgs false
namespace Go.Proofs.YtomfmdfamlmfiaaGreat
open Go Go.Fw
open Go.ChangeShapes Go.WideShapes Go.ChangeAt Go.RowKit
/-- Bytes. -/
theorem shp_bytes {xs : List A} (h : Shp (.sl (.int .u8)) xs) : ∃ bs : List A, xs = [.sl false 1 bs] ∧ bs.length ≤ Go.maxLen ∧ ∀ i, i < bs.length → ∃ c : UInt8, bs[i]? = some (.sc (.int .u8 (c.toNat : Int))) := by
  cases h with | sl h1 h2 hl =>
  rename_i ys
  refine ⟨ys, rfl, hl, fun i hi => ?_⟩
  obtain ⟨y, hy⟩ : ∃ y, ys[i]? = some y := ⟨_, List.getElem?_eq_getElem hi⟩
  have hm := List.mem_of_getElem? hy
  have e := h2 y hm
  have s := h1 y hm
  generalize y.cells = cs at *
  cases s with
  | int hwf =>
    rename_i n
    have hb : 0 ≤ n ∧ n < 256 := by
      simp only [Lit.wf, Bool.and_eq_true, decide_eq_true_eq] at hwf
      have h3 : IntKind.u8.min = 0 := by decide
      have h4 : IntKind.u8.max = 255 := by decide
      omega
    refine ⟨UInt8.ofNat n.toNat, ?_⟩
    rw [hy, e]
    show some (A.sc (.int .u8 n)) = _
    have : ((UInt8.ofNat n.toNat).toNat : Int) = n := by simp; omega
    rw [this]
end Go.Proofs.YtomfmdfamlmfiaaGreat

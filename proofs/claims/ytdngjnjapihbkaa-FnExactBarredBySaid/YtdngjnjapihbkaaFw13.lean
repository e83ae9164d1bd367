/- append on abstract states. Plain theorems, no condition. -/
import Derived.Test.YtdngjnjapihbkaaFw12
set_option linter.unusedVariables false
set_option linter.unusedSimpArgs false
namespace Go.Fw

section
variable {P : Program} {E : Env} {G : Nat → Prop} {gs : Gh} {S : State} {a : Act} {w : World} {tmps : Array Value}

theorem append_core (hi : Inv E G gs S tmps w) {R F2 : List Nat} (hR : Res E G gs S.rows R) (hRlt : ∀ b ∈ R, b < w.heap.size) (hsub : ∀ b ∈ F2, b ∈ R) (hnd : F2.Nodup)
    {r len : Nat} {row : Row} (hr : rowAt S.rows r = some row) (hlk : row.lk = false) {sv : Value} (hsv : TRel w G S.rows gs (.vw r 0 len) sv [])
    {xv : Value} {news : List Value} {xs2 : List A} (hx : Source P w row.n xs2.length xv news) (hrel : RelL w G (flat xs2) news F2) (hw2 : ∀ y ∈ xs2, y.width = row.n)
    {t ty e : TypeId} {z : Value} (ht : elemT P t = some e) (hs : szT P e = some row.n) (hz : zeroT P e = some z) (hzs : z.cells.size = row.n) (hsp : 0 < row.n)
    (hb : (len + xs2.length) * bytesT P e ≤ 140737488355328) (hm : len + xs2.length ≤ maxLen) :
    ∃ w' v' ob F', (Builtin.append_ #[t, t] ty #[sv, xv]).run P w = .ok v' w' ∧ Inv E G (gs.add r ob F') (S.turn r (some ⟨row.n, row.xs.take len ++ xs2, false⟩)) tmps w' ∧
      TRel w' G (S.turn r (some ⟨row.n, row.xs.take len ++ xs2, false⟩)).rows (gs.add r ob F') (.vw r 0 (len + xs2.length)) v' [] := by
  have hlt : r < S.rows.length := rowAt_lt hr
  have hself : ∀ ob F', (gs.add r ob F') r = (ob, F') := fun ob F' => by simp [Gh.add]
  have hrow' : rowAt (S.turn r (some ⟨row.n, row.xs.take len ++ xs2, false⟩)).rows r = some ⟨row.n, row.xs.take len ++ xs2, false⟩ := by rw [rowAt_turn hr, if_pos rfl]
  have hfl2 : news.length = xs2.length * row.n := hx.len
  rcases vw_inv hsv with ⟨row', k, cap, cur, e1, b, hr', hob, g1, g2, g3, g4, g5, g6, rfl⟩ | ⟨row', hr', hob, hxs, _, rfl, rfl⟩
  · rw [hr] at hr'
    obtain rfl := Option.some.inj hr'
    have hk : k = 0 := by rcases g6 with h | h <;> omega
    subst hk
    have hrr := hi.row r row hr
    rw [hob] at hrr
    obtain ⟨cur0, e0, cap0, h1, h2, h3, h4, h5, h6, h7⟩ := hrr.ex
    rw [g2] at h1
    simp only [Option.some.injEq, Obj.cells.injEq] at h1
    obtain ⟨rfl, rfl, _⟩ := h1
    unfold CellsRel at h7
    rw [if_neg (by simp [hlk])] at h7
    obtain ⟨F1, F3, hF, hp, _⟩ := h7.take_ (len * row.n)
    have hll : len ≤ row.xs.length := by omega
    rw [flat_take len h5, List.take_take, Nat.min_eq_left (Nat.mul_le_mul_right _ hll)] at hp
    obtain ⟨w', b', cur', e', cap', hrun, q1, q2, q3, q4, q5, q6, q7, q8, q9, q10, q11⟩ := run_append_fw (ty := ty) ht hs hz hzs hsp g2 g3 (by omega : len ≤ cap) g4 hx hb hm
    have hall : gs.all r = b :: (gs r).2 := by simp [Gh.all, hob]
    have hball : b ∈ gs.all r := by rw [hall]; simp
    have hnodr := hi.nod r row hr
    rw [hall, hF] at hnodr
    have hF1 : ∀ c ∈ F1, c ∈ gs.all r ∧ c ≠ b := fun c hc => ⟨by rw [hall, hF]; simp [hc], fun h => by subst h; simp [hc] at hnodr⟩
    have hGne : ∀ c, G c → G c ∧ w'.heap[c]? = w.heap[c]? := fun c hc => ⟨hc, q11 c (hi.glt c hc) fun h => by subst h; exact (hi.own r row hr c hball).1 hc⟩
    have hFeq : ∀ c ∈ F1 ++ F2, w'.heap[c]? = w.heap[c]? := fun c hc => by
      rcases List.mem_append.1 hc with hc | hc
      · exact q11 c (hi.block_lt hr c (hF1 c hc).1) (hF1 c hc).2
      · exact q11 c (hRlt c (hsub c hc)) fun h => by subst h; exact hR.dis r row hr c hball (hsub c hc)
    have hnodF : (F1 ++ F2).Nodup := by
      rw [List.nodup_append]
      refine ⟨?_, hnd, fun c hc d hd h => ?_⟩
      · have := (List.nodup_cons.1 hnodr).2
        rw [List.nodup_append] at this
        exact this.1
      · subst h; exact hR.dis r row hr c (hF1 c hc).1 (hsub c hd)
    have hb'F : ∀ c ∈ F1 ++ F2, c ≠ b' := fun c hc h => by
      subst h
      rcases q6 with h | h
      · rcases List.mem_append.1 hc with hc | hc
        · exact (hF1 c hc).2 h
        · exact hR.dis r row hr b hball (h ▸ hsub c hc)
      · rcases List.mem_append.1 hc with hc | hc
        · have := hi.block_lt hr c (hF1 c hc).1; omega
        · have := hRlt c (hsub c hc); omega
    have hcont : RowRel w' G [] gs ⟨row.n, row.xs.take len ++ xs2, false⟩ (some b') (F1 ++ F2) → True := fun _ => trivial
    have hlen' : (row.xs.take len ++ xs2).length = len + xs2.length := by simp; omega
    refine ⟨w', _, some b', F1 ++ F2, hrun, hi.turn hr q7 q8 q9 q10 (fun c hc hn => q11 c hc fun h => hn (h ▸ hball)) ?_ ?_ ?_ ?_, ?_⟩
    · exact List.nodup_cons.2 ⟨fun h => hb'F b' h rfl, hnodF⟩
    · intro c hc
      have hc : c ∈ b' :: (F1 ++ F2) := hc
      rcases List.mem_cons.1 hc with rfl | hc
      · rcases q6 with h | h
        · subst h; exact hi.own r row hr _ hball
        · subst h; exact ⟨fun hg => by have := hi.glt _ hg; omega, .inr hi.size⟩
      · rcases List.mem_append.1 hc with hc | hc
        · exact hi.own r row hr c (hF1 c hc).1
        · exact hR.own c (hsub c hc)
    · intro r' row' hne hr' c hc hc2
      have hc2 : c ∈ b' :: (F1 ++ F2) := hc2
      rcases List.mem_cons.1 hc2 with rfl | hc2
      · rcases q6 with h | h
        · subst h; exact hi.dis r' r row' row hr' hr hne _ hc hball
        · subst h; have := hi.block_lt hr' _ hc; omega
      · rcases List.mem_append.1 hc2 with hc2 | hc2
        · exact hi.dis r' r row' row hr' hr hne c hc (hF1 c hc2).1
        · exact hR.dis r' row' hr' c hc (hsub c hc2)
    · intro row' hrow
      obtain rfl := Option.some.inj hrow
      refine ⟨rfl, fun rows' gs' => ⟨cur', e', cap', q1, q2, by rw [hlen']; exact q3, q4, ?_, ?_, ?_⟩⟩
      · intro y hy
        rcases List.mem_append.1 hy with hy | hy
        · exact h5 y (List.mem_of_mem_take hy)
        · exact hw2 y hy
      · intro v hv
        simp only [hlen'] at hv
        rw [q5] at hv
        rcases List.mem_append.1 hv with hv | hv
        · refine h6 v ?_
          have : cur.toList.take (len * row.n) = (cur.toList.take (row.xs.length * row.n)).take (len * row.n) := by rw [List.take_take, Nat.min_eq_left (Nat.mul_le_mul_right _ hll)]
          rw [this] at hv
          exact List.mem_of_mem_take hv
        · exact hx.cell v hv
      · simp only [hlen']
        show RelL w' G (flat (row.xs.take len ++ xs2)) (cur'.toList.take ((len + xs2.length) * row.n)) (F1 ++ F2)
        rw [q5, flat_append]
        exact (hp.append hrel).move_ hGne hFeq
    · have hgs1 : ((gs.add r (some b') (F1 ++ F2)) r).1 = some b' := by rw [hself]
      have := TRel.vw (w := w') (G := G) (rows := (S.turn r (some ⟨row.n, row.xs.take len ++ xs2, false⟩)).rows) (gs := gs.add r (some b') (F1 ++ F2)) (off := 0) (len := len + xs2.length) (k := 0) hrow' hgs1 (by rw [hlen']; omega) q1 q2 q4 (by rw [hlen']; exact q3) (.inl (by simp))
      simpa using this
  · -- the nil slice
    rw [hr] at hr'
    obtain rfl := Option.some.inj hr'
    have hrr := hi.row r row hr
    rw [hob] at hrr
    have hall : gs.all r = [] := by simp [Gh.all, hob, hrr.2]
    have htk : row.xs.take 0 ++ xs2 = xs2 := by simp
    by_cases hm0 : xs2.length = 0
    · have hx2 : xs2 = [] := List.eq_nil_of_length_eq_zero hm0
      subst hx2
      refine ⟨w, _, none, [], run_append_nil0 (ty := ty) ht hs hx, hi.turn hr rfl rfl rfl (Nat.le_refl _) (fun _ _ _ => rfl) (by simp) (by simp) (by simp) ?_, ?_⟩
      · intro row' hrow
        obtain rfl := Option.some.inj hrow
        exact ⟨rfl, fun rows' gs' => ⟨by simp, rfl⟩⟩
      · exact .vwn hrow' (by rw [hself]) (by simp)
    · simp only [Nat.zero_add] at hb hm
      obtain ⟨cur', cap', hrun, q2, q3, q4, q5⟩ := run_append_nil_fw (ty := ty) ht hs hz hzs hsp hx hb hm hm0
      have hGne : ∀ c, G c → G c ∧ (w.drew.alloc (.cells cur' e)).heap[c]? = w.heap[c]? := fun c hc => ⟨hc, heap_alloc_old w.drew _ c (hi.glt c hc)⟩
      have hnew : (w.drew.alloc (.cells cur' e)).heap[w.heap.size]? = some (.cells cur' e (0, 0)) := heap_alloc_new w.drew _
      refine ⟨_, _, some w.heap.size, F2, hrun, hi.turn hr rfl rfl rfl (by simp) (fun c hc _ => heap_alloc_old w.drew _ c hc) ?_ ?_ ?_ ?_, ?_⟩
      · exact List.nodup_cons.2 ⟨fun h => by have := hRlt _ (hsub _ h); omega, hnd⟩
      · intro c hc
        rcases List.mem_cons.1 hc with rfl | hc
        · exact ⟨fun hg => by have := hi.glt _ hg; omega, .inr hi.size⟩
        · exact hR.own c (hsub c hc)
      · intro r' row' hne hr' c hc hc2
        rcases List.mem_cons.1 hc2 with rfl | hc2
        · have := hi.block_lt hr' _ hc; omega
        · exact hR.dis r' row' hr' c hc (hsub c hc2)
      · intro row' hrow
        obtain rfl := Option.some.inj hrow
        refine ⟨rfl, fun rows' gs' => ⟨cur', e, cap', hnew, q2, by rw [htk]; exact q3, q4, ?_, ?_, ?_⟩⟩
        · rw [htk]; exact hw2
        · rw [htk, q5]; exact hx.cell
        · rw [htk]
          show RelL _ G (flat xs2) (cur'.toList.take (xs2.length * row.n)) F2
          rw [q5]
          exact hrel.move_ hGne fun c hc => heap_alloc_old w.drew _ c (hRlt c (hsub c hc))
      · have hgs1 : ((gs.add r (some w.heap.size) F2) r).1 = some w.heap.size := by rw [hself]
        have := TRel.vw (w := w.drew.alloc (.cells cur' e)) (G := G) (rows := (S.turn r (some ⟨row.n, row.xs.take 0 ++ xs2, false⟩)).rows) (gs := gs.add r (some w.heap.size) F2) (off := 0) (len := 0 + xs2.length) (k := 0) hrow' hgs1 (by show 0 + (0 + xs2.length) ≤ (row.xs.take 0 ++ xs2).length; rw [htk]; omega) hnew q2 q4 (by show (row.xs.take 0 ++ xs2).length ≤ cap'; rw [htk]; exact q3) (.inl (by simp))
        simpa using this

theorem exec_append {o : Oper} {x y : Operand} {t : TypeId} (ho : o.op = .call { callee := .builtin .append, args := #[x, y], argTypes := #[t, t] }) {v : Value} {w' : World}
    (hr : (Builtin.append_ #[t, t] o.type #[a.eval x, a.eval y]).run P w = .ok v w') : (execOp a.eval o).run P w = .ok (.value v) w' := by
  simp [execOp, ho, resolve, invoke, builtin, hr]

/-- append(xs, ys...), ys left as they are. -/
theorem opOK_append {o : Oper} {K : State → Prop} {x y : Operand} {t e : TypeId} {r len : Nat} {row : Row} {xs2 : List A} {z : Value} (ho : o.op = .call { callee := .builtin .append, args := #[x, y], argTypes := #[t, t] }) (hx : okO x = true) (hy : okO y = true)
    (h1 : ev S x = .vw r 0 len) (hr : rowAt S.rows r = some row) (hlk : row.lk = false) (h2 : elemsA S (ev S y) = some xs2) (hn : ev S y = .nil ∨ nA S (ev S y) = some row.n) (hno : ∀ y ∈ xs2, noOwn y = true)
    (hlk2 : ∀ r off len row, ev S y = .vw r off len → rowAt S.rows r = some row → row.lk = false) (hok : ∀ c ∈ flat xs2, okCell c = true)
    (ht : elemT P t = some e) (hs : szT P e = some row.n) (hz : zeroT P e = some z) (hzs : z.cells.size = row.n) (hsp : 0 < row.n) (hb : (len + xs2.length) * bytesT P e ≤ 140737488355328) (hm : len + xs2.length ≤ maxLen)
    (hK : K ((S.turn r (some ⟨row.n, row.xs.take len ++ xs2, false⟩)).put o.dst (.vw r 0 (len + xs2.length)))) : opOK P o S K := by
  intro E a w next Q hss hnx
  obtain ⟨hd, G, gs, hi⟩ := hss
  have e1 := ev_rel hi x hx
  have e2 := ev_rel hi y hy
  rw [h1] at e1
  obtain ⟨news, hsrc, hrel, hw2⟩ := source_ok (P := P) hi e2 h2 hn hno hlk2 hok
  obtain ⟨w', v', ob, F', hrun, hinv, hvw⟩ := append_core (ty := o.type) hi (R := []) (F2 := []) Res.nil (by simp) (by simp) .nil hr hlk e1 hsrc hrel hw2 ht hs hz hzs hsp hb hm
  unfold Oper.wp
  rw [exec_append ho hrun]
  exact hnx _ _ _ hK ⟨by rw [put_defers]; exact hd, G, _, Inv.put (S := S.turn r _) hinv hvw o.dst⟩

/-- append(nil, ys...): a row more. -/
theorem opOK_append_nil {o : Oper} {K : State → Prop} {x y : Operand} {t e : TypeId} {s : Nat} {xs2 : List A} {z : Value} (ho : o.op = .call { callee := .builtin .append, args := #[x, y], argTypes := #[t, t] }) (hx : okO x = true) (hy : okO y = true)
    (h1 : ev S x = .nil) (h2 : elemsA S (ev S y) = some xs2) (hn : ev S y = .nil ∨ nA S (ev S y) = some s) (hno : ∀ y ∈ xs2, noOwn y = true)
    (hlk2 : ∀ r off len row, ev S y = .vw r off len → rowAt S.rows r = some row → row.lk = false) (hok : ∀ c ∈ flat xs2, okCell c = true)
    (ht : elemT P t = some e) (hs : szT P e = some s) (hz : zeroT P e = some z) (hzs : z.cells.size = s) (hsp : 0 < s) (hb : xs2.length * bytesT P e ≤ 140737488355328) (hm : xs2.length ≤ maxLen)
    (hK : K ((S.addRow ⟨s, xs2, false⟩).put o.dst (.vw S.rows.length 0 xs2.length))) : opOK P o S K := by
  intro E a w next Q hss hnx
  obtain ⟨hd, G, gs, hi⟩ := hss
  have e1 := ev_rel hi x hx
  have e2 := ev_rel hi y hy
  rw [h1] at e1
  have hv : a.eval x = .slice none 0 0 := by
    generalize a.eval x = u at e1
    cases e1 with | of h => cases h; rfl
  obtain ⟨news, hsrc, hrel, hw2⟩ := source_ok (P := P) hi e2 h2 hn hno hlk2 hok
  have hrow : rowAt (S.addRow ⟨s, xs2, false⟩).rows S.rows.length = some ⟨s, xs2, false⟩ := by
    show rowAt (S.rows ++ [some _]) S.rows.length = _
    rw [rowAt_push, if_pos rfl]
  unfold Oper.wp
  by_cases hm0 : xs2.length = 0
  · have hx2 : xs2 = [] := List.eq_nil_of_length_eq_zero hm0
    subst hx2
    have hrun := run_append_nil0 (ty := o.type) ht hs hsrc
    rw [← hv] at hrun
    rw [exec_append ho hrun]
    have hinv := hi.adopt (w' := w) (G' := G) (R := []) (ob := none) (row := ⟨s, [], false⟩) rfl rfl rfl (Nat.le_refl _) (fun _ _ => rfl) (fun _ h => h) (fun _ h => .inl h) hi.glt (by simp) (by simp) (by simp) (fun _ _ _ => ⟨rfl, rfl⟩)
    refine hnx _ _ _ hK ⟨by rw [put_defers]; exact hd, G, _, Inv.put (S := S.addRow _) hinv ?_ o.dst⟩
    rw [hv]
    exact .vwn (gs := gs.add S.rows.length none []) hrow (by show (if S.rows.length = S.rows.length then _ else _ : Option Nat × List Nat).1 = none; rw [if_pos rfl]) rfl
  · obtain ⟨cur', cap', hrun, q2, q3, q4, q5⟩ := run_append_nil_fw (ty := o.type) ht hs hz hzs hsp hsrc hb hm hm0
    rw [← hv] at hrun
    rw [exec_append ho hrun]
    have hnew : (w.drew.alloc (.cells cur' e)).heap[w.heap.size]? = some (.cells cur' e (0, 0)) := heap_alloc_new w.drew _
    have hG : ∀ b, G b → G b ∧ (w.drew.alloc (.cells cur' e)).heap[b]? = w.heap[b]? := fun c hc => ⟨hc, heap_alloc_old w.drew _ c (hi.glt c hc)⟩
    have hinv := hi.adopt (w' := w.drew.alloc (.cells cur' e)) (G' := G) (R := []) (ob := some w.heap.size) (row := ⟨s, xs2, false⟩) rfl rfl rfl (by simp) (fun c hc => heap_alloc_old w.drew _ c hc) (fun _ h => h) (fun _ h => .inl h)
      (fun b hb => by have := hi.glt b hb; simp; omega) (by simp) (by
        intro b hb
        have hb : b ∈ [w.heap.size] := hb
        simp at hb; subst hb
        exact ⟨fun h => by have := hi.glt _ h; omega, .inr hi.size⟩) (by
        intro r row' hr b hb hb2
        have hb2 : b ∈ [w.heap.size] := hb2
        simp at hb2; subst hb2
        have := hi.block_lt hr _ hb; omega) (fun rows' gs' _ => ⟨cur', e, cap', hnew, q2, q3, q4, hw2, by
          show ∀ v ∈ cur'.toList.take (xs2.length * s), _
          rw [q5]; exact hsrc.cell, by
          show RelL _ G (flat xs2) (cur'.toList.take (xs2.length * s)) []
          rw [q5]; exact hrel.move_ hG (by simp)⟩)
    refine hnx _ _ _ hK ⟨by rw [put_defers]; exact hd, G, _, Inv.put (S := S.addRow _) hinv ?_ o.dst⟩
    have := TRel.vw (w := w.drew.alloc (.cells cur' e)) (G := G) (rows := (S.addRow ⟨s, xs2, false⟩).rows) (gs := gs.add S.rows.length (some w.heap.size) []) (off := 0) (len := xs2.length) (k := 0) hrow (by simp [Gh.add]) (by simp) hnew q2 q4 q3 (.inl (by simp))
    simpa using this

/-- append(xs, ys...) where ys is an own row that goes with it: what its elements hold alone they go on to hold alone. -/
theorem opOK_append_move {o : Oper} {K : State → Prop} {x y : Operand} {t e : TypeId} {r len r2 len2 : Nat} {row row2 : Row} {z : Value} (ho : o.op = .call { callee := .builtin .append, args := #[x, y], argTypes := #[t, t] }) (hx : okO x = true) (hy : okO y = true)
    (h1 : ev S x = .vw r 0 len) (hr : rowAt S.rows r = some row) (hlk : row.lk = false) (h2 : ev S y = .vw r2 0 len2) (hr2 : rowAt S.rows r2 = some row2) (hlen2 : len2 = row2.xs.length) (hlk2 : row2.lk = false) (hne : r2 ≠ r) (hnn : row2.n = row.n)
    (hok : ∀ c ∈ flat row2.xs, okCell c = true)
    (ht : elemT P t = some e) (hs : szT P e = some row.n) (hz : zeroT P e = some z) (hzs : z.cells.size = row.n) (hsp : 0 < row.n) (hb : (len + row2.xs.length) * bytesT P e ≤ 140737488355328) (hm : len + row2.xs.length ≤ maxLen)
    (hK : K (((S.turn r2 none).turn r (some ⟨row.n, row.xs.take len ++ row2.xs, false⟩)).put o.dst (.vw r 0 (len + row2.xs.length)))) : opOK P o S K := by
  intro E a w next Q hss hnx
  obtain ⟨hd, G, gs, hi⟩ := hss
  have e1 := ev_rel hi x hx
  have e2 := ev_rel hi y hy
  rw [h1] at e1
  rw [h2] at e2
  obtain ⟨F, hst, hrelr⟩ := stash1_ok hi Res.nil (x := .vw r2 0 len2) e2 (by simp only [stash1, hr2]; exact ⟨trivial, by omega, hlk2⟩)
  simp only [stash1, hr2] at hst hrelr
  rw [List.take_of_length_le (by omega)] at hrelr
  have e1' := hst.step _ _ e1
  have hkill : kills [r2] (.vw r 0 len) = .vw r 0 len := by simp [kills, kill_vw, Ne.symm hne]
  rw [hkill] at e1'
  have hr' := hst.rows r row (by simp [Ne.symm hne]) hr hlk
  have hlt : ∀ b ∈ F, b < w.heap.size := by simpa using hst.lt (by simp)
  have hres : Res E G gs (S.turn r2 none).rows F := by simpa using hst.res
  -- the source
  have hsrc : ∃ news F2, Source P w row.n row2.xs.length (a.eval y) news ∧ RelL w G (flat row2.xs) news F2 ∧ (∀ y ∈ row2.xs, y.width = row.n) ∧ (∀ b ∈ F2, b ∈ F) ∧ F2.Nodup := by
    generalize a.eval y = v at hrelr e2
    generalize hxs : row2.xs = xs at *
    cases hrelr with
    | nils => exact ⟨[], [], ⟨by simp, fun w' => by simp [Builtin.lenOf], fun w' _ => by simp [Builtin.firstCells], by simp⟩, .nil, by simp, by simp, .nil⟩
    | ow hh hw hlen hc hl hcap hmx hsz hvv =>
      rename_i b l cap cur et cs F2
      subst hlen
      have hlen : cs.length = xs.length * row.n := by rw [hl.length, flat_length hw, hnn]
      refine ⟨cs, F2, ⟨hlen, fun w' => by simp [Builtin.lenOf], fun w' hw' => ?_, okCells_v (TRelL.of (rows := []) (gs := gs) hl) (List.all_eq_true.2 hok)⟩, hl, fun y hy => by rw [← hnn]; exact hw y hy, fun b hb => by simp [hb], ?_⟩
      · refine run_firstCells_some (P := P) w' row.n _ ⟨b, 0, none⟩ _ cap _ hlen (fun j u hu => ?_)
        rw [add_none, cell_at (w := w') (by rw [hw']; exact hh)]
        have hj : j < cs.length := by
          rcases Nat.lt_or_ge j cs.length with h | h
          · exact h
          · rw [List.getElem?_eq_none h] at hu; simp at hu
        rw [hc] at hu
        rw [hlen] at hj
        rw [hnn, List.getElem?_take_of_lt hj] at hu
        simpa using hu
      · exact (List.nodup_cons.1 hres.nod).2
  obtain ⟨news, F2, hs1, hs2, hs3, hs4, hs5⟩ := hsrc
  obtain ⟨w', v', ob, F', hrun, hinv, hvw⟩ := append_core (ty := o.type) hst.inv hres hlt hs4 hs5 hr' hlk e1' hs1 hs2 hs3 ht hs hz hzs hsp hb hm
  unfold Oper.wp
  rw [exec_append ho hrun]
  exact hnx _ _ _ hK ⟨by rw [put_defers]; exact hd, G, _, Inv.put (S := (S.turn r2 none).turn r _) hinv hvw o.dst⟩
end
end Go.Fw

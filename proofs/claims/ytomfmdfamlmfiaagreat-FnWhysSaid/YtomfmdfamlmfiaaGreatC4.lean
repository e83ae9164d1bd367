/- Calls that write into one box of plain data and hand back something of which a relation speaks. Plain theorems, no condition. -/
import Derived.Test.YtomfmdfamlmfiaaGreatC3
import Derived.Laws.StructEq
set_option linter.unusedVariables false
set_option linter.unusedSimpArgs false
namespace Go.Fw
section
variable {P : Program} {T : Nat → Option TI} {S : State} {Ω : Opq}
theorem mutL_data : ∀ {xs : List A}, xs.all isData = true → xs.all noOwn = true → MutL S xs xs xs []
  | [], _, _ => .nil
  | x :: xs, h1, h2 => by
    simp only [List.all_cons, Bool.and_eq_true] at h1 h2
    exact .cons (l := []) (.data h1.1 h2.1) (mutL_data h1.2 h2.2)
theorem CallOK_box {g k r : Nat} {row : Row} {rest : List A} {R : A → List A → Prop} {K : A → State → Prop} (fz : Bool) (hc : XCtr P g (.bx (flat row.xs) :: rest) R) (hr : rowAt S.rows r = some row) (h1 : row.xs.length = 1) (hlk : row.lk = true)
    (hd : (flat row.xs).all isData = true) (hno : (flat row.xs).all noOwn = true) (hrd : rest.all isData = true) (hrn : rest.all noOwn = true)
    (h : ∀ x outs, R x outs → ∃ ys, outs = .bx ys :: rest ∧ ys.length = row.n ∧ ys.all noOwn = true ∧ noOwn (rootA k (S.mut [(r, [.agg ys])]) (if fz then frz x else x)).1 = true ∧
      K (rootA k (S.mut [(r, [.agg ys])]) (if fz then frz x else x)).1 (rootA k (S.mut [(r, [.agg ys])]) (if fz then frz x else x)).2) : CallOK P g (.pt r 0 0 :: rest) S K := by
  refine ⟨hc.enter, fun E G gs tmps w vs hi hl => ?_⟩
  have hm : ∀ ys : List A, ys.length = row.n → MutL S (.pt r 0 0 :: rest) (.bx (flat row.xs) :: rest) (.bx ys :: rest) [(r, [.agg ys])] := fun ys hy =>
    .cons (l := [(r, [.agg ys])]) (ls := []) (.pt hr h1 hlk hd hy) (mutL_data hrd hrn)
  have hlen0 : (flat row.xs).length = row.n := by
    obtain ⟨b, _, hrc⟩ := row_real hi hr (by omega) (.inl hlk)
    obtain ⟨_, _, _, _, _, _, _, h5, _⟩ := hrc.ex
    obtain ⟨y, hy⟩ : ∃ y, row.xs = [y] := by
      match hx : row.xs with
      | [] => rw [hx] at h1; cases h1
      | [y] => exact ⟨y, rfl⟩
      | _ :: _ :: _ => rw [hx] at h1; simp at h1
    rw [hy]
    have := h5 y (by rw [hy]; simp)
    unfold A.width at this
    simpa [flat] using this
  have hgive := mut_giveL hi (hm (flat row.xs) hlen0) hl
  have hown : ∀ b ∈ gs.all r, ¬ G b ∧ (E.Fin b ∨ E.w0.heap.size ≤ b) ∧ b < w.heap.size := fun b hb => by
    obtain ⟨q1, q2⟩ := hi.own r row hr b hb
    exact ⟨q1, q2, hi.block_lt hr b hb⟩
  have hF : blocksOf gs [(r, [A.agg (flat row.xs)])] = gs.all r := by simp [blocksOf]
  rw [hF] at hgive
  refine Calls.mono (hc.run w G vs (gs.all r) hi.glt (hi.nod r row hr) (fun b hb => (hown b hb).1) hgive) ?_
  rintro e w' ⟨v, Fx, Fo, x, outs, hR, rfl, hmem, hnd, hin, hx, ho⟩
  obtain ⟨ys, rfl, hy, hyn, hnr, hK⟩ := h x outs hR
  -- the box's block comes back, so what is handed back is new
  have key : ∀ Fr, RelL w G (.bx (flat row.xs) :: rest) vs Fr → ∀ b ∈ Fr, b ∈ Fo := fun Fr hg b hb => by
    cases hg with
    | cons g1 g2 =>
      have hFb := g2.noOwn hrn
      subst hFb
      rw [List.append_nil] at hb
      cases ho with
      | cons o1 o2 =>
        cases g1 with
        | bx hh hl1 hv =>
          have hF0 := hl1.noOwn hno
          subst hF0
          cases o1 with
          | bx hh' hl' hv' => simp at hb; subst hb; simp
  have hsub := key _ hgive
  have hnew : ∀ b ∈ Fx, w.heap.size ≤ b := fun b hb => by
    rcases hin b (by simp [hb]) with q | q
    · exact absurd (hsub b q) (fun q2 => (List.nodup_append.1 hnd).2.2 b hb b q2 rfl)
    · exact q
  have hsz : ∀ b ∈ Fx, b < w'.heap.size := hx.lt
  have hF2 : ∀ ys' : List A, blocksOf gs [(r, [A.agg ys'])] = gs.all r := fun ys' => by simp [blocksOf]
  cases fz with
  | false =>
    exact mut_post hi hl (hm ys hy) (by simp) hnr hK ⟨by rw [hF2]; exact hmem, hnd, fun b hb => by rw [hF2]; exact hin b hb, by rw [hF2]; exact hx, by rw [hF2]; exact ho⟩
  | true =>
    have hnd' := (List.nodup_append.1 hnd)
    refine mut_post (Fx := []) (Fo := Fo) hi hl (hm ys hy) (by simp) hnr hK ⟨by rw [hF2]; exact hmem, by simpa using hnd'.2.1, fun b hb => by rw [hF2]; exact hin b (by simp at hb; simp [hb]), ?_, ?_⟩
    · rw [hF2]; exact hx.frz (fun b hb => ⟨hb.1, fun q => hb.2 (by simp at q; simp [q])⟩) fun b hb => ⟨.inr (.inr ⟨hnew b hb, hsz b hb⟩), fun q => hnd'.2.2 b hb b (by simpa using q) rfl⟩
    · rw [hF2]; exact ho.move_ (fun b hb => ⟨⟨hb.1, fun q => hb.2 (by simp at q; simp [q])⟩, rfl⟩) fun _ _ => rfl
def fzA (fz : Bool) (x : A) : A := match fz with | true => frz x | false => x
theorem call_box (hΩ : Ω = std) (k : Nat) {g r : Nat} {row : Row} {rest : List A} {R : A → List A → Prop} {K : A → State → Prop} (fz : Bool) (hc : XCtr P g (.bx (flat row.xs) :: rest) R) (hr : rowAt S.rows r = some row) (h1 : row.xs.length = 1) (hlk : row.lk = true)
    (hd : (flat row.xs).all isData = true) (hno : (flat row.xs).all noOwn = true) (hrd : rest.all isData = true) (hrn : rest.all noOwn = true)
    (h : ∀ x outs, R x outs → ∃ ys, outs = .bx ys :: rest ∧ ys.length = row.n ∧ ys.all noOwn = true ∧ noOwn (rootO Ω k (S.mut [(r, [.agg ys])]) (fzA fz x)).1 = true ∧
      K (rootO Ω k (S.mut [(r, [.agg ys])]) (fzA fz x)).1 (rootO Ω k (S.mut [(r, [.agg ys])]) (fzA fz x)).2) : CallX P g (.pt r 0 0 :: rest) S K := by
  subst hΩ
  have e : ∀ x, (if fz = true then frz x else x) = fzA fz x := fun x => by cases fz <;> rfl
  exact ⟨CallOK_box (k := k) fz hc hr h1 hlk hd hno hrd hrn fun x outs hR => by simp only [e, ← rootO_std]; exact h x outs hR⟩
/-- Rows from n on are not asked for any more. -/
def cutT (n : Nat) (t : List (Nat × A)) : List (Nat × A) := t.map fun p => (p.1, if onlyR (List.range n) p.2 then p.2 else .un)
theorem lk_cutT (n : Nat) : ∀ (t : List (Nat × A)) (i : Nat), lk (cutT n t) i = if onlyR (List.range n) (lk t i) then lk t i else .un
  | [], i => by simp [cutT, lk, onlyR]
  | (k, x) :: l, i => by
    have ih := lk_cutT n l i
    simp only [cutT] at ih
    simp only [cutT, List.map_cons, lk]
    split
    · rfl
    · exact ih
def rowsOnly (n : Nat) : List (Option Row) → Bool
  | [] => true
  | none :: l => rowsOnly n l
  | some row :: l => rowOnly (List.range n) row && rowsOnly n l
theorem rowsOnly_at {n : Nat} : ∀ {l : List (Option Row)} {r : Nat} {row : Row}, rowsOnly n l = true → rowAt l r = some row → rowOnly (List.range n) row = true
  | [], r, row, _, h => by simp [rowAt] at h
  | none :: l, 0, row, _, h => by simp [rowAt] at h
  | some row' :: l, 0, row, h1, h => by
    simp [rowAt] at h
    subst h
    simp only [rowsOnly, Bool.and_eq_true] at h1
    exact h1.1
  | none :: l, r + 1, row, h1, h => rowsOnly_at (l := l) (r := r) h1 (by simpa [rowAt] using h)
  | some row' :: l, r + 1, row, h1, h => by
    simp only [rowsOnly, Bool.and_eq_true] at h1
    exact rowsOnly_at (l := l) (r := r) h1.2 (by simpa [rowAt] using h)
theorem rowAt_take {l : List (Option Row)} {n r : Nat} : rowAt (l.take n) r = if r < n then rowAt l r else none := by
  unfold rowAt
  rw [List.getElem?_take]
  split <;> rfl
theorem Sbs.cut (n : Nat) (h : rowsOnly n (S.rows.take n) = true) : Sbs S ⟨cutT n S.t, S.N, S.rows.take n⟩ := by
  intro P E a w ⟨hd, G, gs, hi⟩
  have hrat : ∀ r row, rowAt (S.rows.take n) r = some row → rowAt S.rows r = some row := fun r row hr => by
    rw [rowAt_take] at hr
    split at hr
    · exact hr
    · cases hr
  have hle : ∀ r ∈ List.range n, RowLe w w S.rows (S.rows.take n) gs gs r := fun r hr => RowLe.refl_of fun row hrw => by
    rw [List.mem_range] at hr
    exact ⟨by rw [rowAt_take, if_pos hr]; exact hrw, rfl, fun _ _ => rfl⟩
  refine ⟨hd, G, gs, hi.keep, hi.os, hi.tape, hi.output, hi.size, hi.sz, hi.gsub, hi.gnew, hi.glt, fun r row hr => ?_, fun r row hr => hi.nod r row (hrat r row hr), fun r row hr => hi.own r row (hrat r row hr),
    fun r r' row row' hr hr' => hi.dis r r' row row' (hrat r row hr) (hrat r' row' hr'), fun i => ?_⟩
  · exact (hi.row r row (hrat r row hr)).on (fun b hb => ⟨hb, rfl⟩) hle (rowsOnly_at h hr) fun _ _ => rfl
  · show TRel w G (S.rows.take n) gs (lk (cutT n S.t) i) _ []
    rw [lk_cutT]
    split
    · rename_i ho
      exact (hi.tmp i).on (fun b hb => ⟨hb, rfl⟩) hle ho (by simp)
    · exact .un
/-! An own row of data, from now on only read. -/
mutual
def thaw (r n : Nat) (xs : List A) : A → A
  | .vw r' off len => if r' = r then .sl false n ((xs.drop off).take len) else .vw r' off len
  | .pt r' j o => if r' = r then .rp ((flat xs).drop (j * n + o)) else .pt r' j o
  | .agg ys => .agg (thawL r n xs ys)
  | .tup ys => .tup (thawL r n xs ys)
  | .clo g ys => .clo g (thawL r n xs ys)
  | .un => .un
  | .sc v => .sc v
  | .nil => .nil
  | .sl o m ys => .sl o m ys
  | .rp ys => .rp ys
  | .bx ys => .bx ys
  | .mp q => if q = r then .rmp xs else .mp q
  | .rmp ys => .rmp ys
  | .al v y => .al v (thaw r n xs y)
def thawL (r n : Nat) (xs : List A) : List A → List A
  | [] => []
  | y :: ys => thaw r n xs y :: thawL r n xs ys
end
theorem thawL_eq (r n : Nat) (xs : List A) : ∀ ys : List A, thawL r n xs ys = ys.map (thaw r n xs)
  | [] => rfl
  | y :: ys => by rw [thawL, thawL_eq r n xs ys]; rfl
theorem thaw_agg (r n : Nat) (xs ys : List A) : thaw r n xs (.agg ys) = .agg (ys.map (thaw r n xs)) := by rw [thaw, thawL_eq]
theorem thaw_tup (r n : Nat) (xs ys : List A) : thaw r n xs (.tup ys) = .tup (ys.map (thaw r n xs)) := by rw [thaw, thawL_eq]
theorem thaw_clo (r n g : Nat) (xs ys : List A) : thaw r n xs (.clo g ys) = .clo g (ys.map (thaw r n xs)) := by rw [thaw, thawL_eq]
theorem Rel.thaw {w : World} {G : Nat → Prop} {x : A} {v : Value} {F : List Nat} (h : Rel w G x v F) (r n : Nat) (xs : List A) : Fw.thaw r n xs x = x := by
  refine Rel.rec (motive_1 := fun x v F _ => Fw.thaw r n xs x = x) (motive_2 := fun ys vs F _ => ys.map (Fw.thaw r n xs) = ys)
    ?_ ?_ ?_ ?_ ?_ ?_ ?_ ?_ ?_ ?_ ?_ ?_ ?_ ?_ ?_ h
  · intros; rw [Fw.thaw]
  · intros; rw [Fw.thaw]
  · intros; rw [Fw.thaw]
  · intros; rw [Fw.thaw]
  · intros; rw [Fw.thaw]
  · intros; rw [Fw.thaw]
  · intros; rw [Fw.thaw]
  · intro xs cs F hl ih; rw [thaw_agg, ih]
  · intro xs cs F hl ih; rw [thaw_tup, ih]
  · intros; rw [Fw.thaw]
  · intros; rw [Fw.thaw]
  · intro g caps cs F hl ih; rw [thaw_clo, ih]
  · intros; rw [Fw.thaw]
  · rfl
  · intro x v F xs vs Fs h hl ih ih'; rw [List.map_cons, ih, ih']
/-- What is known of a row whose blocks are G's from now on. -/
structure Thawed (w : World) (G G' : Nat → Prop) (rows rows' : List (Option Row)) (gs gs' : Gh) (r : Nat) (row : Row) (ys : List A) : Prop where
  sub : ∀ b, G b → G' b
  ro : ∀ b, (gs r).1 = some b → G' b
  ob : ∀ c, (gs r).1 = some c → RowCells w G' rows gs { row with xs := ys } c []
  mp : ∀ b, gs r = (none, [b]) → Rel w G' (.rmp ys) (.map (some b)) []
  len : ys.length = row.xs.length
  lk : row.lk = false
  at_ : rowAt rows r = some row
  other : ∀ q row', q ≠ r → rowAt rows q = some row' → rowAt rows' q = some row' ∨ ∃ row2, rowAt rows' q = some row2 ∧ row2.n = row'.n ∧ row2.xs.length = row'.xs.length
  gsq : ∀ q, q ≠ r → gs' q = gs q
theorem TRel.thaw {w : World} {G G' : Nat → Prop} {rows rows' : List (Option Row)} {gs gs' : Gh} {r : Nat} {row : Row} {ys : List A} (ht : Thawed w G G' rows rows' gs gs' r row ys) {x : A} {v : Value} {F : List Nat} (h : TRel w G rows gs x v F) :
    TRel w G' rows' gs' (Fw.thaw r row.n ys x) v F := by
  refine TRel.rec (motive_1 := fun x v F _ => TRel w G' rows' gs' (Fw.thaw r row.n ys x) v F) (motive_2 := fun xs vs F _ => TRelL w G' rows' gs' (xs.map (Fw.thaw r row.n ys)) vs F) ?_ ?_ ?_ ?_ ?_ ?_ ?_ ?_ ?_ ?_ ?_ ?_ h
  · intros; rw [Fw.thaw]; exact .un
  · intro x v F h; rw [h.thaw]; exact .of (h.move_ (fun b hb => ⟨ht.sub b hb, rfl⟩) fun _ _ => rfl)
  · intro q off len k cap c row' cur e h1 h2 h3 h4 h5 h6 h7 h8
    rw [Fw.thaw]
    split
    · rename_i hq
      subst hq
      rw [ht.at_] at h1
      obtain rfl := Option.some.inj h1
      obtain ⟨cur', e', cap', g1, g2, g3, g4, g5, g6, g7⟩ := (ht.ob _ h2).ex
      rw [h4] at g1
      obtain ⟨rfl, -, -⟩ : cur = cur' ∧ e = e' ∧ True := by simpa using g1
      unfold CellsRel at g7
      dsimp only at g3 g5 g6 g7
      rw [if_neg (by rw [ht.lk]; simp)] at g7
      have hwd : ∀ x ∈ ys, x.width = row.n := g5
      have hlen : ys.length = row.xs.length := ht.len
      have hl2 : (ys.drop off).take len = (ys.take (off + len)).drop off := by rw [List.drop_take]; congr 1; omega
      have h9 := (g7.take0 ((off + len) * row.n)).drop0 (off * row.n)
      rw [flat_take (off + len) hwd, flat_drop off (fun x hx => hwd x (List.mem_of_mem_take hx)), ← hl2] at h9
      have e9 : List.drop (off * row.n) (List.take ((off + len) * row.n) (List.take (ys.length * row.n) cur.toList)) = (cur.toList.drop (off * row.n)).take (len * row.n) := by
        have hle : (off + len) * row.n ≤ ys.length * row.n := Nat.mul_le_mul_right _ (by rw [hlen]; exact h3)
        rw [List.take_take, Nat.min_eq_left hle, List.drop_take, Nat.add_mul, Nat.add_sub_cancel_left]
      rw [e9] at h9
      have hll : len = ((ys.drop off).take len).length := by simp; omega
      refine .of (.ro h4 (ht.ro c h2) (fun x hx => hwd x (List.mem_of_mem_drop (List.mem_of_mem_take hx))) hll rfl ?_ (by omega) (by omega))
      rcases h8 with rfl | ⟨h8, _⟩
      · exact h9
      · have h0 : len = 0 := by omega
        subst h0
        simpa [flat] using RelL.nil
    · rename_i hq
      rcases ht.other q row' hq h1 with h9 | ⟨row2, h9, h10, h11⟩
      · exact .vw h9 (by rw [ht.gsq q hq]; exact h2) h3 h4 h5 h6 h7 h8
      · exact .vw h9 (by rw [ht.gsq q hq]; exact h2) (by omega) h4 (by rw [h10]; exact h5) h6 (by omega) (by rw [h10]; exact h8)
  · intro q row' h1 h2 h3
    rw [Fw.thaw]
    split
    · simpa using TRel.of Rel.nils
    · rename_i hq
      rcases ht.other q row' hq h1 with h9 | ⟨row2, h9, h10, h11⟩
      · exact .vwn h9 (by rw [ht.gsq q hq]; exact h2) h3
      · exact .vwn h9 (by rw [ht.gsq q hq]; exact h2) (List.eq_nil_of_length_eq_zero (by rw [h11, h3]; rfl))
  · intro q j o k c row' h1 h2 h3
    rw [Fw.thaw]
    split
    · rename_i hq
      subst hq
      rw [ht.at_] at h1
      obtain rfl := Option.some.inj h1
      obtain ⟨cur', e', cap', g1, g2, g3, g4, g5, g6, g7⟩ := (ht.ob _ h2).ex
      unfold CellsRel at g7
      dsimp only at g3 g5 g6 g7
      rw [if_neg (by rw [ht.lk]; simp)] at g7
      have h9 := g7.drop0 (j * row.n + o)
      have hfl := flat_length (n := row.n) (xs := ys) g5
      subst h3
      refine .of (.rp g1 (ht.ro c h2) rfl ?_)
      rw [List.length_drop, hfl, ← List.drop_take]
      exact h9
    · rename_i hq
      rcases ht.other q row' hq h1 with h9 | ⟨row2, h9, h10, h11⟩
      · exact .pt h9 (by rw [ht.gsq q hq]; exact h2) h3
      · exact .pt h9 (by rw [ht.gsq q hq]; exact h2) (by rw [h10]; exact h3)
  · intro xs cs F hl ih; rw [thaw_agg]; exact .agg ih
  · intro xs cs F hl ih; rw [thaw_tup]; exact .tup ih
  · intro g caps cs F hl ih; rw [thaw_clo]; exact .clo ih
  · intro q b row' h1 h2
    rw [Fw.thaw]
    split
    · rename_i hq
      subst hq
      exact .of (ht.mp b h2)
    · rename_i hq
      rcases ht.other q row' hq h1 with h9 | ⟨row2, h9, h10, h11⟩
      · exact .mp h9 (by rw [ht.gsq q hq]; exact h2)
      · exact .mp h9 (by rw [ht.gsq q hq]; exact h2)
  · intro x v F h ih; rw [Fw.thaw]; exact .al ih
  · exact .nil
  · intro x v F xs vs Fs h hl ih ih'; exact .cons ih ih'
def thawRow (r n : Nat) (xs : List A) (row : Row) : Row := if row.lk then { row with xs := row.xs.map (thaw r n xs) } else row
def thawT (r n : Nat) (xs : List A) (t : List (Nat × A)) : List (Nat × A) := t.map fun p => (p.1, thaw r n xs p.2)
theorem lk_thawT (r n : Nat) (xs : List A) : ∀ (t : List (Nat × A)) (i : Nat), lk (thawT r n xs t) i = thaw r n xs (lk t i)
  | [], i => by show A.un = thaw r n xs .un; rw [thaw]
  | (k, x) :: l, i => by
    have ih := lk_thawT r n xs l i
    simp only [thawT] at ih
    simp only [thawT, List.map_cons, lk]
    split
    · rfl
    · exact ih
theorem thaw_cells (r n : Nat) (xs : List A) (x : A) : (thaw r n xs x).cells = x.cells.map (thaw r n xs) := by
  have e1 : ∀ q o l, (if q = r then A.sl false n ((xs.drop o).take l) else A.vw q o l).cells = [if q = r then A.sl false n ((xs.drop o).take l) else A.vw q o l] := fun q o l => by split <;> rfl
  have e2 : ∀ q o l, (if q = r then A.rp ((flat xs).drop (o * n + l)) else A.pt q o l).cells = [if q = r then A.rp ((flat xs).drop (o * n + l)) else A.pt q o l] := fun q o l => by split <;> rfl
  cases x with
  | vw q o l => simp only [A.cells, List.map_cons, List.map_nil, thaw, e1]; exact e1 q o l
  | pt q o l => simp only [A.cells, List.map_cons, List.map_nil, thaw, e2]; exact e2 q o l
  | mp q => by_cases hq : q = r <;> simp [A.cells, thaw, hq]
  | _ => simp only [thaw, thawL_eq, A.cells, List.map_cons, List.map_nil]
theorem thaw_width (r n : Nat) (xs : List A) (x : A) : (thaw r n xs x).width = x.width := by simp [A.width, thaw_cells]
theorem thaw_flat (r n : Nat) (xs ys : List A) : flat (ys.map (thaw r n xs)) = (flat ys).map (thaw r n xs) := by
  induction ys with
  | nil => rfl
  | cons x ys ih => simp only [flat, List.map_cons, List.flatMap_cons, List.map_append] at *; rw [ih, thaw_cells]
def State.thaw (S : State) (r n : Nat) (ys : List A) : State := ⟨thawT r n ys S.t, S.N, (S.rows.map (Option.map (thawRow r n ys))).set r none⟩
/-- An own row of data is only read from now on: what led into it tells what it holds. -/
theorem Sbs.thawY {r : Nat} {row : Row} {ys : List A} (hr : rowAt S.rows r = some row) (hlk : row.lk = false) (hyl : ys.length = row.xs.length)
    (hys : (∀ x ∈ row.xs, x.width = row.n) → (∀ x ∈ ys, x.width = row.n))
    (hre : ∀ (w : World) (G G' : Nat → Prop) (vs : List Value) (F : List Nat), RelL w G (flat row.xs) vs F → (∀ b, G b → G' b) → (∀ b ∈ F, G' b) → RelL w G' (flat ys) vs []) : Sbs S (S.thaw r row.n ys) := by
  intro P E ac w ⟨hd, G, gs, hi⟩
  have hal := rowAt_lt hr
  have hrat : ∀ q, rowAt (S.thaw r row.n ys).rows q = if q = r then none else (rowAt S.rows q).map (thawRow r row.n ys) := fun q => by
    show rowAt ((S.rows.map (Option.map (thawRow r row.n ys))).set r none) q = _
    rw [rowAt_set _ _ _ _ (by simpa using hal)]
    split
    · rfl
    · simp only [rowAt, List.getElem?_map]
      cases h : S.rows[q]? with
      | none => rfl
      | some o => cases o <;> rfl
  have hGsub : ∀ b, G b → G b ∨ b ∈ gs.all r := fun b h => .inl h
  have hob : ∀ c, (gs r).1 = some c → RowCells w (fun b => G b ∨ b ∈ gs.all r) S.rows gs { row with xs := ys } c [] := fun c hc => by
    have h := hi.row r row hr
    have hin2 : ∀ b ∈ (gs r).2, b ∈ gs.all r := fun b hb => by simp [Gh.all, hb]
    rw [hc] at h
    generalize (gs r).2 = F at h hin2
    obtain ⟨b, rfl⟩ : ∃ b, b = c := ⟨_, rfl⟩
    · skip
      obtain ⟨cur, e, cap, h1, h2, h3, h4, h5, h6, h7⟩ := RowCells.ex h
      refine ⟨cur, e, cap, h1, h2, by dsimp only; rw [hyl]; exact h3, h4, hys h5, by dsimp only; rw [hyl]; exact h6, ?_⟩
      · unfold CellsRel at h7 ⊢
        dsimp only
        rw [if_neg (by rw [hlk]; simp)] at h7 ⊢
        rw [hyl]
        exact hre w G (fun b => G b ∨ b ∈ gs.all r) _ _ h7 hGsub (fun b hb => .inr (hin2 b hb))
  have hmp : ∀ b, gs r = (none, [b]) → Rel w (fun b => G b ∨ b ∈ gs.all r) (.rmp ys) (.map (some b)) [] := fun b hb => by
    have h := hi.row r row hr
    rw [hb] at h
    rcases h with ⟨_, h⟩ | h
    · cases h
    · obtain ⟨b', clock, ents, e1, h1, h2, h3, h4, h5⟩ := h.ex
      obtain rfl : b = b' := by simpa using e1
      refine .rmp h1 (.inr (by simp [Gh.all, hb])) (fun x hx => ?_) (hre w G (fun b => G b ∨ b ∈ gs.all r) _ _ h5 hGsub (by simp))
      have := hys (fun x hx => by rw [h4 x hx, h3]) x hx
      rw [this, h3]
  have ht : Thawed w G (fun b => G b ∨ b ∈ gs.all r) S.rows (S.thaw r row.n ys).rows gs (gs.add r none []) r row ys := by
    refine ⟨hGsub, fun b hb => .inr (by simp [Gh.all, hb]), hob, hmp, hyl, hlk, hr, fun q row' hq hq2 => ?_, fun q hq => by simp [Gh.add, hq]⟩
    rw [hrat, if_neg hq, hq2]
    refine .inr ⟨_, rfl, ?_, ?_⟩ <;> unfold thawRow <;> split <;> simp
  have hgs : ∀ q, q ≠ r → (gs.add r none []) q = gs q := fun q hq => by simp [Gh.add, hq]
  have hall : ∀ q, q ≠ r → (gs.add r none []).all q = gs.all q := fun q hq => by simp only [Gh.all, hgs q hq]
  have hcase : ∀ q row', rowAt (S.thaw r row.n ys).rows q = some row' → q ≠ r ∧ ∃ row0, rowAt S.rows q = some row0 ∧ row' = thawRow r row.n ys row0 := fun q row' h => by
    rw [hrat] at h
    split at h
    · cases h
    · rename_i hq
      obtain ⟨row0, q1, q2⟩ := Option.map_eq_some_iff.1 h
      exact ⟨hq, row0, q1, q2.symm⟩
  refine ⟨hd, fun b => G b ∨ b ∈ gs.all r, gs.add r none [], hi.keep, hi.os, hi.tape, hi.output, hi.size, hi.sz, fun b hb => .inl (hi.gsub b hb), fun b hb => ?_, hi.glt.move (fun b h => .inl h) (fun _ _ => rfl) (fun b hb => ?_), fun q row' hq => ?_, fun q row' hq => ?_, fun q row' hq b hb => ?_, fun q q' row' row'' hq hq' hne => ?_, fun i => ?_⟩
  · rcases hb with hb | hb
    · exact hi.gnew b hb
    · exact .inr (hi.own r row hr b hb).2
  · rcases hb with hb | hb
    · exact hi.glt b hb
    · exact hi.block_lt hr b hb
  · obtain ⟨hqr, row0, h0, rfl⟩ := hcase q row' hq
    have hrow := hi.row q row0 h0
    rw [hgs q hqr]
    generalize (gs q).1 = ob at hrow
    cases ob with
    | none =>
      rcases hrow with ⟨q1, q2⟩ | hm
      · refine .inl ⟨?_, q2⟩
        unfold thawRow
        split <;> simp [q1]
      · refine .inr ?_
        have e : thawRow r row.n ys row0 = row0 := by obtain ⟨_, _, _, _, _, h1, _⟩ := hm.ex; unfold thawRow; rw [if_neg (by simp [h1])]
        rw [e]
        exact hm.step (fun b hb => ⟨.inl hb, rfl⟩) fun _ _ => rfl
    | some c =>
      obtain ⟨cur, ee, cap, h1, h2, h3, h4, h5, h6, h7⟩ := RowCells.ex hrow
      unfold CellsRel at h7
      by_cases hl : row0.lk = true
      · have e1 : thawRow r row.n ys row0 = { row0 with xs := row0.xs.map (Fw.thaw r row.n ys) } := by unfold thawRow; rw [if_pos hl]
        rw [e1]
        refine ⟨cur, ee, cap, h1, h2, by simpa using h3, h4, ?_, by simpa using h6, ?_⟩
        · intro x hx
          obtain ⟨y, hy, rfl⟩ := List.mem_map.1 hx
          rw [thaw_width]; exact h5 y hy
        · unfold CellsRel
          rw [if_pos hl] at h7
          show if row0.lk = true then _ else _
          rw [if_pos hl, thaw_flat]
          have : ∀ {xs : List A} {vs : List Value} {F : List Nat}, TRelL w G S.rows gs xs vs F → TRelL w (fun b => G b ∨ b ∈ gs.all r) (S.thaw r row.n ys).rows (gs.add r none []) (xs.map (Fw.thaw r row.n ys)) vs F := by
            intro xs vs F h
            induction xs generalizing vs F with
            | nil => cases h; exact .nil
            | cons x xs ih => cases h with | cons h hl => exact .cons (h.thaw ht) (ih hl)
          simpa using this h7
      · have e1 : thawRow r row.n ys row0 = row0 := by unfold thawRow; rw [if_neg hl]
        rw [e1]
        refine ⟨cur, ee, cap, h1, h2, h3, h4, h5, h6, ?_⟩
        unfold CellsRel
        rw [if_neg hl] at h7 ⊢
        exact h7.move_ (fun b hb => ⟨.inl hb, rfl⟩) fun _ _ => rfl
  · obtain ⟨hqr, row0, h0, rfl⟩ := hcase q row' hq
    rw [hall q hqr]; exact hi.nod q row0 h0
  · obtain ⟨hqr, row0, h0, rfl⟩ := hcase q row' hq
    rw [hall q hqr] at hb
    obtain ⟨q1, q2⟩ := hi.own q row0 h0 b hb
    exact ⟨fun h => h.elim q1 fun h => hi.dis q r row0 row h0 hr hqr b hb h, q2⟩
  · obtain ⟨hqr, row0, h0, rfl⟩ := hcase q row' hq
    obtain ⟨hqr', row1, h1, rfl⟩ := hcase q' row'' hq'
    rw [hall q hqr, hall q' hqr']
    exact hi.dis q q' row0 row1 h0 h1 hne
  · show TRel w _ (S.thaw r row.n ys).rows _ (lk (thawT r row.n ys S.t) i) _ []
    rw [lk_thawT]
    exact (hi.tmp i).thaw ht
/-- The same with what is held alone frozen. -/
theorem Sbs.thaw {r : Nat} {row : Row} (hr : rowAt S.rows r = some row) (hlk : row.lk = false) : Sbs S (S.thaw r row.n (row.xs.map frz)) :=
  Sbs.thawY hr hlk (by simp) (fun h x hx => by obtain ⟨y, hy, rfl⟩ := List.mem_map.1 hx; rw [width_frz]; exact h y hy) fun w G G' vs F h h1 h2 => by rw [flat_frz]; exact RelL.frz h h1 h2
/-- The same where nothing is held alone. -/
theorem Sbs.thaw0 {r : Nat} {row : Row} (hr : rowAt S.rows r = some row) (hlk : row.lk = false) (hno : (flat row.xs).all noOwn = true) : Sbs S (S.thaw r row.n row.xs) :=
  Sbs.thawY hr hlk rfl (fun h => h) fun w G G' vs F h h1 h2 => by
    obtain rfl := h.noOwn hno
    exact RelL.move_ (fun b hb => ⟨h1 b hb, rfl⟩) h (fun _ _ => rfl)
/-- A box of data is told as a row of data. -/
theorem Sbs.unlk {r : Nat} {row : Row} (hr : rowAt S.rows r = some row) (hd : (flat row.xs).all isData = true) : Sbs S (S.setRow r { row with lk := false }) := by
  intro P E ac w ⟨hd', G, gs, hi⟩
  have hal := rowAt_lt hr
  have hrat : ∀ q, rowAt (S.setRow r { row with lk := false }).rows q = if q = r then some { row with lk := false } else rowAt S.rows q := fun q => rowAt_setRow hr
  have hle : ∀ q, RowLe w w S.rows (S.setRow r { row with lk := false }).rows gs gs q := fun q => ⟨fun row' h => by
    rw [hrat]
    split
    · rename_i e; subst e; rw [hr] at h; obtain rfl := Option.some.inj h; exact ⟨_, rfl, rfl, rfl, rfl, fun b cur e h1 h2 => ⟨cur, e, h2, rfl⟩⟩
    · exact ⟨_, h, rfl, rfl, rfl, fun b cur e h1 h2 => ⟨cur, e, h2, rfl⟩⟩, fun _ _ _ => rfl⟩
  have hold : ∀ q row', rowAt (S.setRow r { row with lk := false }).rows q = some row' → ∃ row0, rowAt S.rows q = some row0 := fun q row' h => by
    rw [hrat] at h
    split at h
    · rename_i e; subst e; exact ⟨_, hr⟩
    · exact ⟨_, h⟩
  refine ⟨hd', G, gs, hi.keep, hi.os, hi.tape, hi.output, hi.size, hi.sz, hi.gsub, hi.gnew, hi.glt, fun q row' hq => ?_, fun q row' hq => ?_, fun q row' hq => ?_, fun q q' row' row'' hq hq' => ?_, fun i => (hi.tmp i).step (fun b hb => ⟨hb, rfl⟩) hle (by simp)⟩
  · rw [hrat] at hq
    split at hq
    · rename_i e
      subst e
      obtain rfl := Option.some.inj hq
      have h := hi.row q row hr
      generalize (gs q).1 = ob at h
      cases ob with
      | none => exact h.imp id fun hm => by obtain ⟨b, cl, es, e0, h1, h2, h3, h4, h5⟩ := hm.ex; exact ⟨b, cl, es, e0, h1, rfl, h3, h4, h5⟩
      | some b =>
        obtain ⟨cur, e, cap, h1, h2, h3, h4, h5, h6, h7⟩ := RowCells.ex h
        refine ⟨cur, e, cap, h1, h2, .of h3.le, h4, h5, h6, ?_⟩
        unfold CellsRel
        dsimp only
        rw [if_neg (by simp)]
        exact h7.t.data hd
    · exact (hi.row q row' hq).step (fun b hb => ⟨hb, rfl⟩) hle (fun _ _ => rfl)
  · obtain ⟨row0, h0⟩ := hold q row' hq
    exact hi.nod q row0 h0
  · obtain ⟨row0, h0⟩ := hold q row' hq
    exact hi.own q row0 h0
  · obtain ⟨row0, h0⟩ := hold q row' hq
    obtain ⟨row1, h1⟩ := hold q' row'' hq'
    exact hi.dis q q' row0 row1 h0 h1
/- Row a is told as row b from now on. -/
mutual
def ren (a b : Nat) : A → A
  | .vw r off len => if r = a then .vw b off len else .vw r off len
  | .pt r j o => if r = a then .pt b j o else .pt r j o
  | .agg xs => .agg (renL a b xs)
  | .tup xs => .tup (renL a b xs)
  | .clo g xs => .clo g (renL a b xs)
  | .un => .un
  | .sc v => .sc v
  | .nil => .nil
  | .sl o n xs => .sl o n xs
  | .rp xs => .rp xs
  | .bx xs => .bx xs
  | .mp r => if r = a then .mp b else .mp r
  | .rmp xs => .rmp xs
  | .al v x => .al v (ren a b x)
def renL (a b : Nat) : List A → List A
  | [] => []
  | x :: xs => ren a b x :: renL a b xs
end
theorem renL_eq (a b : Nat) : ∀ xs : List A, renL a b xs = xs.map (ren a b)
  | [] => rfl
  | x :: xs => by rw [renL, renL_eq a b xs]; rfl
theorem ren_agg (a b : Nat) (xs : List A) : ren a b (.agg xs) = .agg (xs.map (ren a b)) := by rw [ren, renL_eq]
theorem ren_tup (a b : Nat) (xs : List A) : ren a b (.tup xs) = .tup (xs.map (ren a b)) := by rw [ren, renL_eq]
theorem ren_clo (a b g : Nat) (xs : List A) : ren a b (.clo g xs) = .clo g (xs.map (ren a b)) := by rw [ren, renL_eq]
theorem Rel.ren {w : World} {G : Nat → Prop} {x : A} {v : Value} {F : List Nat} (h : Rel w G x v F) (a b : Nat) : Fw.ren a b x = x := by
  refine Rel.rec (motive_1 := fun x v F _ => Fw.ren a b x = x) (motive_2 := fun xs vs F _ => xs.map (Fw.ren a b) = xs)
    ?_ ?_ ?_ ?_ ?_ ?_ ?_ ?_ ?_ ?_ ?_ ?_ ?_ ?_ ?_ h
  · intros; rw [Fw.ren]
  · intros; rw [Fw.ren]
  · intros; rw [Fw.ren]
  · intros; rw [Fw.ren]
  · intros; rw [Fw.ren]
  · intros; rw [Fw.ren]
  · intros; rw [Fw.ren]
  · intro xs cs F hl ih; rw [ren_agg, ih]
  · intro xs cs F hl ih; rw [ren_tup, ih]
  · intros; rw [Fw.ren]
  · intros; rw [Fw.ren]
  · intro g caps cs F hl ih; rw [ren_clo, ih]
  · intros; rw [Fw.ren]
  · rfl
  · intro x v F xs vs Fs h hl ih ih'; rw [List.map_cons, ih, ih']
theorem TRel.ren {w : World} {G : Nat → Prop} {rows rows' : List (Option Row)} {gs gs' : Gh} {a b : Nat} (hr : ∀ r row, rowAt rows r = some row → ∃ row', rowAt rows' (if r = a then b else r) = some row' ∧ gs' (if r = a then b else r) = gs r ∧ row'.n = row.n ∧ row'.xs.length = row.xs.length)
    {x : A} {v : Value} {F : List Nat} (h : TRel w G rows gs x v F) : TRel w G rows' gs' (Fw.ren a b x) v F := by
  refine TRel.rec (motive_1 := fun x v F _ => TRel w G rows' gs' (Fw.ren a b x) v F) (motive_2 := fun xs vs F _ => TRelL w G rows' gs' (xs.map (Fw.ren a b)) vs F) ?_ ?_ ?_ ?_ ?_ ?_ ?_ ?_ ?_ ?_ ?_ ?_ h
  · intros; rw [Fw.ren]; exact .un
  · intro x v F h; rw [h.ren]; exact .of h
  · intro r off len k cap c row cur e h1 h2 h3 h4 h5 h6 h7 h8
    obtain ⟨row', q1, q2, q3, q4⟩ := hr r row h1
    have : Fw.ren a b (.vw r off len) = .vw (if r = a then b else r) off len := by rw [Fw.ren]; split <;> rfl
    rw [this]
    exact .vw q1 (by rw [q2]; exact h2) (by omega) h4 (by rw [h5, q3]) h6 (by omega) (by rw [q3]; exact h8)
  · intro r row h1 h2 h3
    obtain ⟨row', q1, q2, q3, q4⟩ := hr r row h1
    have : Fw.ren a b (.vw r 0 0) = .vw (if r = a then b else r) 0 0 := by rw [Fw.ren]; split <;> rfl
    rw [this]
    exact .vwn q1 (by rw [q2]; exact h2) (by rw [h3] at q4; exact List.eq_nil_of_length_eq_zero q4)
  · intro r j o k c row h1 h2 h3
    obtain ⟨row', q1, q2, q3, q4⟩ := hr r row h1
    have : Fw.ren a b (.pt r j o) = .pt (if r = a then b else r) j o := by rw [Fw.ren]; split <;> rfl
    rw [this]
    exact .pt q1 (by rw [q2]; exact h2) (by rw [q3]; exact h3)
  · intro xs cs F hl ih; rw [ren_agg]; exact .agg ih
  · intro xs cs F hl ih; rw [ren_tup]; exact .tup ih
  · intro g caps cs F hl ih; rw [ren_clo]; exact .clo ih
  · intro r c row h1 h2
    obtain ⟨row', q1, q2, q3, q4⟩ := hr r row h1
    have : Fw.ren a b (.mp r) = .mp (if r = a then b else r) := by rw [Fw.ren]; split <;> rfl
    rw [this]
    exact .mp q1 (by rw [q2]; exact h2)
  · intro x v F h ih; rw [Fw.ren]; exact .al ih
  · exact .nil
  · intro x v F xs vs Fs h hl ih ih'; exact .cons ih ih'
theorem TRelL.ren {w : World} {G : Nat → Prop} {rows rows' : List (Option Row)} {gs gs' : Gh} {a b : Nat} (hr : ∀ r row, rowAt rows r = some row → ∃ row', rowAt rows' (if r = a then b else r) = some row' ∧ gs' (if r = a then b else r) = gs r ∧ row'.n = row.n ∧ row'.xs.length = row.xs.length) :
    ∀ {xs : List A} {vs : List Value} {F : List Nat}, TRelL w G rows gs xs vs F → TRelL w G rows' gs' (xs.map (Fw.ren a b)) vs F
  | _, _, _, .nil => .nil
  | _, _, _, .cons h hl => .cons (h.ren hr) (hl.ren hr)
def renRow (a b : Nat) (row : Row) : Row := if row.lk then { row with xs := row.xs.map (ren a b) } else row
def renRows (a b : Nat) (rows : List (Option Row)) : List (Option Row) := rows.map (Option.map (renRow a b))
def renT (a b : Nat) (t : List (Nat × A)) : List (Nat × A) := t.map fun p => (p.1, ren a b p.2)
theorem lk_renT (a b : Nat) : ∀ (t : List (Nat × A)) (i : Nat), lk (renT a b t) i = ren a b (lk t i)
  | [], i => by show A.un = ren a b .un; rw [ren]
  | (k, x) :: l, i => by
    have ih := lk_renT a b l i
    simp only [renT] at ih
    simp only [renT, List.map_cons, lk]
    split
    · rfl
    · exact ih
theorem rowAt_renRows (a b : Nat) (rows : List (Option Row)) (i : Nat) : rowAt (renRows a b rows) i = (rowAt rows i).map (renRow a b) := by
  simp only [rowAt, renRows, List.getElem?_map]
  cases h : rows[i]? with
  | none => rfl
  | some o => cases o <;> rfl
theorem renRow_n (a b : Nat) (row : Row) : (renRow a b row).n = row.n := by unfold renRow; split <;> rfl
theorem renRow_len (a b : Nat) (row : Row) : (renRow a b row).xs.length = row.xs.length := by unfold renRow; split <;> simp
theorem ren_cells (a b : Nat) (x : A) : (ren a b x).cells = x.cells.map (ren a b) := by
  have e1 : ∀ r o l, ren a b (.vw r o l) = .vw (if r = a then b else r) o l := fun r o l => by rw [ren]; split <;> rfl
  have e2 : ∀ r o l, ren a b (.pt r o l) = .pt (if r = a then b else r) o l := fun r o l => by rw [ren]; split <;> rfl
  cases x with
  | vw r o l => simp only [A.cells, List.map_cons, List.map_nil, e1]
  | pt r o l => simp only [A.cells, List.map_cons, List.map_nil, e2]
  | mp r => by_cases hq : r = a <;> simp [A.cells, ren, hq]
  | _ => simp only [ren, renL_eq, A.cells, List.map_cons, List.map_nil]
theorem ren_width (a b : Nat) (x : A) : (ren a b x).width = x.width := by simp [A.width, ren_cells]
theorem ren_flat (a b : Nat) (xs : List A) : flat (xs.map (ren a b)) = (flat xs).map (ren a b) := by
  induction xs with
  | nil => rfl
  | cons x xs ih => simp only [flat, List.map_cons, List.flatMap_cons, List.map_append] at *; rw [ih, ren_cells]
/-- Row a becomes row b, where none stood. -/
def State.mv (S : State) (a b : Nat) : State := ⟨renT a b S.t, S.N, ((renRows a b S.rows).set b (((rowAt S.rows a).map (renRow a b)))).set a none⟩
theorem Sbs.mv {a b : Nat} {row : Row} (ha : rowAt S.rows a = some row) (hb : rowAt S.rows b = none) (hlt : b < S.rows.length) : Sbs S (S.mv a b) := by
  intro P E ac w ⟨hd, G, gs, hi⟩
  have hab : a ≠ b := fun e => by rw [e, hb] at ha; cases ha
  have hal := rowAt_lt ha
  have hlen : (renRows a b S.rows).length = S.rows.length := by simp [renRows]
  have hrat : ∀ r, rowAt (S.mv a b).rows r = if r = a then none else if r = b then (rowAt S.rows a).map (renRow a b) else (rowAt S.rows r).map (renRow a b) := fun r => by
    show rowAt (((renRows a b S.rows).set b _).set a none) r = _
    rw [rowAt_set _ _ _ _ (by rw [List.length_set, hlen]; exact hal)]
    split
    · rfl
    · rw [rowAt_set _ _ _ _ (by rw [hlen]; exact hlt)]
      split
      · rfl
      · rw [rowAt_renRows]
  have hcase : ∀ r row', rowAt (S.mv a b).rows r = some row' → ∃ r0 row0, rowAt S.rows r0 = some row0 ∧ row' = renRow a b row0 ∧ r = (if r0 = a then b else r0) ∧ r0 ≠ b ∧ r ≠ a := fun r row' h => by
    rw [hrat] at h
    split at h
    · cases h
    · rename_i h1
      split at h
      · rename_i h2
        rw [ha] at h
        exact ⟨a, row, ha, (Option.some.inj h).symm, by rw [if_pos rfl]; exact h2, hab, h1⟩
      · rename_i h2
        obtain ⟨row0, q1, q2⟩ := Option.map_eq_some_iff.1 h
        exact ⟨r, row0, q1, q2.symm, by rw [if_neg h1], h2, h1⟩
  have hgs : ∀ r0, r0 ≠ b → (fun r => if r = b then gs a else gs r) (if r0 = a then b else r0) = gs r0 := fun r0 h0 => by
    dsimp only
    by_cases h : r0 = a
    · subst h; simp
    · rw [if_neg h, if_neg h0]
  have hren : ∀ r row0, rowAt S.rows r = some row0 → ∃ row', rowAt (S.mv a b).rows (if r = a then b else r) = some row' ∧ (fun r => if r = b then gs a else gs r) (if r = a then b else r) = gs r ∧ row'.n = row0.n ∧ row'.xs.length = row0.xs.length := fun r row0 h => by
    have hrb : r ≠ b := fun e => by rw [e, hb] at h; cases h
    refine ⟨renRow a b row0, ?_, hgs r hrb, renRow_n .., renRow_len ..⟩
    rw [hrat]
    by_cases hra : r = a
    · subst hra
      rw [if_pos rfl, if_neg (fun e => hab e.symm), if_pos rfl, h]; rfl
    · rw [if_neg hra, if_neg hra, if_neg hrb, h]; rfl
  have hall : ∀ r0, r0 ≠ b → Gh.all (fun r => if r = b then gs a else gs r) (if r0 = a then b else r0) = gs.all r0 := fun r0 h0 => by
    have := hgs r0 h0
    simp only [Gh.all] at *
    rw [this]
  refine ⟨hd, G, fun r => if r = b then gs a else gs r, hi.keep, hi.os, hi.tape, hi.output, hi.size, hi.sz, hi.gsub, hi.gnew, hi.glt, fun r row' hr => ?_, fun r row' hr => ?_, fun r row' hr => ?_, fun r r' row' row'' hr hr' hne => ?_, fun i => ?_⟩
  · obtain ⟨r0, row0, h0, rfl, rfl, hb0, hra⟩ := hcase r row' hr
    have hrow := hi.row r0 row0 h0
    have e : (if (if r0 = a then b else r0) = b then gs a else gs (if r0 = a then b else r0)) = gs r0 := hgs r0 hb0
    rw [e]
    generalize (gs r0).1 = ob at hrow
    cases ob with
    | none =>
      rcases hrow with ⟨q1, q2⟩ | hm
      · refine .inl ⟨?_, q2⟩
        unfold renRow
        split <;> simp [q1]
      · refine .inr ?_
        have e : renRow a b row0 = row0 := by obtain ⟨_, _, _, _, _, h1, _⟩ := hm.ex; unfold renRow; rw [if_neg (by simp [h1])]
        rw [e]; exact hm
    | some c =>
      obtain ⟨cur, ee, cap, h1, h2, h3, h4, h5, h6, h7⟩ := hrow.ex
      unfold CellsRel at h7
      by_cases hl : row0.lk = true
      · have e1 : renRow a b row0 = { row0 with xs := row0.xs.map (ren a b) } := by unfold renRow; rw [if_pos hl]
        rw [e1]
        refine ⟨cur, ee, cap, h1, h2, by simpa using h3, h4, ?_, by simpa using h6, ?_⟩
        · intro x hx
          obtain ⟨y, hy, rfl⟩ := List.mem_map.1 hx
          rw [ren_width]; exact h5 y hy
        · unfold CellsRel
          rw [if_pos hl] at h7
          show if row0.lk = true then _ else _
          rw [if_pos hl, ren_flat]
          simpa using h7.ren hren
      · have e1 : renRow a b row0 = row0 := by unfold renRow; rw [if_neg hl]
        rw [e1]
        refine ⟨cur, ee, cap, h1, h2, h3, h4, h5, h6, ?_⟩
        unfold CellsRel
        rw [if_neg hl] at h7 ⊢
        exact h7
  · obtain ⟨r0, row0, h0, rfl, rfl, hb0, hra⟩ := hcase r row' hr
    rw [hall r0 hb0]; exact hi.nod r0 row0 h0
  · obtain ⟨r0, row0, h0, rfl, rfl, hb0, hra⟩ := hcase r row' hr
    rw [hall r0 hb0]; exact hi.own r0 row0 h0
  · obtain ⟨r0, row0, h0, rfl, rfl, hb0, hra⟩ := hcase r row' hr
    obtain ⟨r1, row1, h1, rfl, rfl, hb1, hra1⟩ := hcase r' row'' hr'
    rw [hall r0 hb0, hall r1 hb1]
    exact hi.dis r0 r1 row0 row1 h0 h1 fun e => hne (by rw [e])
  · show TRel w G (S.mv a b).rows _ (lk (renT a b S.t) i) _ []
    rw [lk_renT]
    exact (hi.tmp i).ren hren
end
end Go.Fw

/- Walks: draws of numbers. Plain theorems. -/
set_option linter.unusedVariables false
set_option linter.unusedSimpArgs false
namespace Go.Proofs.YtomfmdfamlmfiaaGreat
open Go Go.Fw
set_option maxRecDepth 100000
/-- The bytes that are read, and how many were. -/
def src (bs : List A) (p : Int) : A := .bx [.sl false 1 bs, i64 p]
structure Src (bs : List A) : Prop where
  len : bs.length ≤ 1048576
  byte : ∀ i, i < bs.length → ∃ c : UInt8, bs[i]? = some (.sc (.int .u8 (c.toNat : Int)))
/-- The number that is drawn of n at place p. -/
def nxt (k : Nat) (f : Nat → Int) (p n : Int) : Int :=
  if n < 1 then 0 else if (k : Int) = 0 then (p * 7).tmod n else
    let v := f (p.tmod k).toNat + p.tdiv k * 37
    (if 200 < n then v * 251 + f ((p + 1).tmod k).toNat * 13 + p else v).tmod n
theorem Src.fn {bs : List A} (h : Src bs) : ∃ f : Nat → Int, (∀ i, i < bs.length → bs[i]? = some (.sc (.int .u8 (f i)))) ∧ ∀ i, 0 ≤ f i ∧ f i ≤ 255 := by
  have : ∀ i, ∃ x : Int, (i < bs.length → bs[i]? = some (.sc (.int .u8 x))) ∧ 0 ≤ x ∧ x ≤ 255 := fun i => by
    by_cases hi : i < bs.length
    · obtain ⟨c, hc⟩ := h.byte i hi
      refine ⟨c.toNat, fun _ => hc, Int.natCast_nonneg _, ?_⟩
      have := c.toNat_lt
      omega
    · exact ⟨0, fun h => absurd h hi, by omega, by omega⟩
  exact ⟨fun i => (this i).choose, fun i hi => (this i).choose_spec.1 hi, fun i => (this i).choose_spec.2⟩
theorem i64w {x : Int} (h1 : -9223372036854775808 ≤ x) (h2 : x ≤ 9223372036854775807) : IntKind.i64.wrap x = x := wrap64 h1 h2
theorem pInc {Ω : Opq} (hΩ : Ω = std) {p q : Int} (h0 : 0 ≤ p) (h1 : p ≤ 1099511627776) (hq : q = p + 1) : Ω.ar .add .i64 p 1 = q := by subst hΩ; rw [hq]; exact i64w (by omega) (by omega)
theorem pDec {Ω : Opq} (hΩ : Ω = std) {p q : Int} (h0 : 0 ≤ p) (h1 : p ≤ 1099511627776) : Ω.ar .sub .i64 (Ω.ar .add .i64 p 1) 1 = p := by
  rw [pInc hΩ h0 h1 rfl]; subst hΩ; show IntKind.i64.wrap (p + 1 - 1) = p; rw [i64w (by omega) (by omega)]; omega
theorem tmodB {p k : Int} (h0 : 0 ≤ p) (hk : 0 < k) : 0 ≤ p.tmod k ∧ p.tmod k < k := ⟨Int.tmod_nonneg _ h0, Int.tmod_lt_of_pos _ hk⟩
theorem tdivB {p k : Int} (h0 : 0 ≤ p) (hk : 0 < k) : 0 ≤ p.tdiv k ∧ p.tdiv k ≤ p := by
  rw [Int.tdiv_eq_ediv_of_nonneg h0]
  exact ⟨Int.ediv_nonneg h0 (Int.le_of_lt hk), Int.ediv_le_self _ h0⟩
theorem rdM {Ω : Opq} (hΩ : Ω = std) {bs : List A} {f : Nat → Int} {k : Nat} (hk : k = bs.length) (hf : ∀ i, i < k → bs[i]? = some (.sc (.int .u8 (f i)))) {x p : Int} (hx : x = p) (h0 : 0 ≤ p) (hk0 : ¬ (k : Int) = 0) :
    bs[(Ω.ar .rem .i64 x (Ω.int (Ω.len bs))).toNat]? = some (.sc (.int .u8 (f (p.tmod k).toNat))) := by
  subst hΩ; subst hx
  show bs[(x.tmod (bs.length : Int)).toNat]? = _
  rw [← hk]
  obtain ⟨h1, h2⟩ := tmodB h0 (show (0 : Int) < k by omega)
  exact hf _ (by omega)
theorem remNN {Ω : Opq} (hΩ : Ω = std) {bs : List A} {k : Nat} (hk : k = bs.length) {x p : Int} (hx : x = p) (h0 : 0 ≤ p) (hk0 : ¬ (k : Int) = 0) : 0 ≤ Ω.ar .rem .i64 x (Ω.int (Ω.len bs)) := by
  subst hΩ; subst hx
  exact Int.tmod_nonneg _ h0
theorem lenNZ {Ω : Opq} (hΩ : Ω = std) {bs : List A} {k : Nat} (hk : k = bs.length) (hk0 : ¬ (k : Int) = 0) : Ω.int (Ω.len bs) ≠ 0 := by subst hΩ; intro h; exact hk0 (by rw [hk]; exact h)
theorem c_l1Next {bs : List A} (hb : Src bs) (p n : Int) (h0 : 0 ≤ p) (h1 : p ≤ 1099511627776) (hn : n ≤ 4294967296) :
    ∃ r, MCtr PP n_spec_l1Next [src bs p, i64 n] (i64 r) [src bs (p + 1), i64 n] ∧ (n < 1 → r = 0) ∧ (1 ≤ n → 0 ≤ r ∧ r < n) := by
  obtain ⟨f, hf, hfb⟩ := hb.fn
  have hlen := hb.len
  obtain ⟨k, hk⟩ : ∃ k, k = bs.length := ⟨_, rfl⟩
  rw [← hk] at hlen hf
  refine ⟨nxt k f p n, ?_, fun h => by rw [nxt, if_pos h], fun h => ?_⟩
  · by_cases hk0 : (k : Int) = 0
    · obtain ⟨Ω, hΩ⟩ : ∃ Ω, Ω = std := ⟨_, rfl⟩
      obtain ⟨r, hr⟩ : ∃ r, r = nxt k f p n := ⟨_, rfl⟩
      rw [← hr]
      unfold src nxt at *
      obtain ⟨q, hq⟩ : ∃ q, q = p + 1 := ⟨_, rfl⟩
      rw [← hq] at hr ⊢
      rw [if_pos hk0] at hr
      have hl0 : Ω.int (Ω.len bs) = 0 := by subst hΩ; rw [← hk0, hk]; rfl
      have htab := tab
      have hmo := hmo
      refine MCtr.walkO tab hΩ 3 fn_spec_l1Next rfl rfl rfl ?_
      generalize PP = P at *
      have fin : ∀ {x : Int}, x = r → FitX (A.sc (Value.int IntKind.i64 x)) (A.sc (Value.int IntKind.i64 r)) ∧ FitLX [A.bx [A.sl false 1 bs, A.sc (Value.int IntKind.i64 (Ω.ar BinOp.add IntKind.i64 p 1))], A.sc (Value.int IntKind.i64 n)]
          [A.bx [A.sl false 1 bs, A.sc (Value.int IntKind.i64 q)], A.sc (Value.int IntKind.i64 n)] := fun h => ⟨.of (congrArg i64 h), .of (by rw [pInc hΩ h0 h1 hq])⟩
      cbv
      refine br (fun h => ?_) (fun h => ?_) <;> cbv
      · exact fin (by rw [hr, if_pos (ltI_t hΩ h)])
      have hn1 := ltI_f hΩ h
      rw [if_neg (by omega)] at hr
      refine br (fun h => ?_) (fun h => absurd (by subst hΩ; exact (show ((bs.length : Nat) : Int) = 0 by rw [← hk]; exact hk0)) (eqI_f hΩ h)) <;> cbv
      refine ⟨⟨by omega⟩, fin ?_⟩
      rw [hr]
      have e := pDec (q := 0) hΩ h0 h1
      refine Eq.trans (congrArg (fun z => Ω.ar .rem .i64 (Ω.ar .mul .i64 z 7) n) e) ?_
      subst hΩ
      show (IntKind.i64.wrap (p * 7)).tmod n = _
      rw [i64w (by omega) (by omega)]
    · obtain ⟨m1, m2⟩ := tmodB h0 (show (0 : Int) < k by omega)
      obtain ⟨d1, d2⟩ := tdivB h0 (show (0 : Int) < k by omega)
      have hvb := hfb (p.tmod k).toNat
      have hvb2 := hfb ((p + 1).tmod k).toNat
      obtain ⟨Ω, hΩ⟩ : ∃ Ω, Ω = std := ⟨_, rfl⟩
      obtain ⟨r, hr⟩ : ∃ r, r = nxt k f p n := ⟨_, rfl⟩
      rw [← hr]
      unfold src nxt at *
      obtain ⟨q, hq⟩ : ∃ q, q = p + 1 := ⟨_, rfl⟩
      rw [← hq] at hr ⊢
      rw [if_neg hk0] at hr
      rw [← hq] at hvb2
      have hrd1 : ∀ x, x = p → bs[(Ω.ar .rem .i64 x (Ω.int (Ω.len bs))).toNat]? = some (.sc (.int .u8 (f (p.tmod k).toNat))) := fun x hx => rdM hΩ hk hf hx h0 hk0
      have hrd2 : ∀ x, x = q → bs[(Ω.ar .rem .i64 x (Ω.int (Ω.len bs))).toNat]? = some (.sc (.int .u8 (f (q.tmod k).toNat))) := fun x hx => rdM hΩ hk hf hx (by omega) hk0
      have hnn1 : ∀ x, x = p → 0 ≤ Ω.ar .rem .i64 x (Ω.int (Ω.len bs)) := fun x hx => remNN hΩ hk hx h0 hk0
      have hnn2 : ∀ x, x = q → 0 ≤ Ω.ar .rem .i64 x (Ω.int (Ω.len bs)) := fun x hx => remNN hΩ hk hx (by omega) hk0
      have hquo : ∀ x, x = p → Ω.ar .quo .i64 x (Ω.int (Ω.len bs)) = p.tdiv k := fun x hx => by
        subst hΩ; subst hx; rw [hk] at d1 d2 ⊢; exact (i64w (x := x.tdiv (bs.length : Int)) (by omega) (by omega))
      have hnz := lenNZ hΩ hk hk0
      have hne : Ω.int (Ω.len bs) = 0 → False := hnz
      generalize f (p.tmod k).toNat = g1 at *
      generalize f (q.tmod k).toNat = g2 at *
      generalize p.tdiv k = d at *
      obtain ⟨v, hv⟩ : ∃ v, v = g1 + d * 37 := ⟨_, rfl⟩
      have hv3 : 0 ≤ v ∧ v ≤ 40681930227967 := by omega
      have hvw : IntKind.i64.wrap (IntKind.i64.wrap g1 + IntKind.i64.wrap (d * 37)) = v := by
        rw [i64w (x := d * 37) (by omega) (by omega), i64w (x := g1) (by omega) (by omega), i64w (by omega) (by omega), hv]
      rw [← hv] at hr
      clear hk0 m1 m2 hfb hf hlen hk
      have htab := tab
      have hmo := hmo
      refine MCtr.walkO tab hΩ 3 fn_spec_l1Next rfl rfl rfl ?_
      generalize PP = P at *
      have fin : ∀ {x : Int}, x = r → FitX (A.sc (Value.int IntKind.i64 x)) (A.sc (Value.int IntKind.i64 r)) ∧ FitLX [A.bx [A.sl false 1 bs, A.sc (Value.int IntKind.i64 (Ω.ar BinOp.add IntKind.i64 p 1))], A.sc (Value.int IntKind.i64 n)]
          [A.bx [A.sl false 1 bs, A.sc (Value.int IntKind.i64 q)], A.sc (Value.int IntKind.i64 n)] := fun h => ⟨.of (congrArg i64 h), .of (by rw [pInc hΩ h0 h1 hq])⟩
      cbv
      refine br (fun h => ?_) (fun h => ?_) <;> cbv
      · exact fin (by rw [hr, if_pos (ltI_t hΩ h)])
      have hn1 := ltI_f hΩ h
      rw [if_neg (by omega)] at hr
      refine br (fun h => absurd (eqI_t hΩ h) hne) (fun h => ?_) <;> cbv
      have e := pDec (q := 0) hΩ h0 h1
      refine ⟨VC_drawn htab hΩ hmo (by kernel_rfl) ?_⟩
      cbv
      refine ⟨⟨hne⟩, ⟨hnn1 _ e⟩, _, hrd1 _ e, ?_⟩
      cbv
      refine ⟨⟨hne⟩, br (fun h => ?_) (fun h => ?_)⟩ <;> cbv
      · have hn2 : 200 < n := gtI_t hΩ h
        have hr' : r = (v * 251 + g2 * 13 + p).tmod n := by rw [hr]; exact congrArg (fun z => Int.tmod z n) (if_pos hn2)
        have e3 : Ω.ar .add .i64 (Ω.ar .sub .i64 (Ω.ar .add .i64 p 1) 1) 1 = q := by rw [e]; exact pInc hΩ h0 h1 hq
        refine ⟨VC_drawn htab hΩ hmo (by kernel_rfl) ?_⟩
        cbv
        refine ⟨⟨hne⟩, ⟨hnn2 _ e3⟩, _, hrd2 _ e3, ?_⟩
        cbv
        refine ⟨⟨by omega⟩, fin ?_⟩
        rw [hr']
        have eq := hquo _ e
        refine Eq.trans (congrArg (fun z => Ω.ar .rem .i64 (Ω.ar .add .i64 (Ω.ar .add .i64 (Ω.ar .mul .i64 (Ω.ar .add .i64 (Ω.wrap .i64 g1) (Ω.ar .mul .i64 z 37)) 251) (Ω.ar .mul .i64 (Ω.wrap .i64 g2) 13)) (Ω.ar .sub .i64 (Ω.ar .add .i64 p 1) 1)) n) eq) ?_
        rw [e]
        subst hΩ
        show (IntKind.i64.wrap (IntKind.i64.wrap (IntKind.i64.wrap (IntKind.i64.wrap (IntKind.i64.wrap g1 + IntKind.i64.wrap (d * 37)) * 251) + IntKind.i64.wrap (IntKind.i64.wrap g2 * 13)) + p)).tmod n = _
        rw [hvw, i64w (x := v * 251) (by omega) (by omega), i64w (x := g2) (by omega) (by omega), i64w (x := g2 * 13) (by omega) (by omega), i64w (x := v * 251 + _) (by omega) (by omega), i64w (by omega) (by omega)]
      · have hn2 : ¬ 200 < n := by have := gtI_f hΩ h; omega
        have hr' : r = v.tmod n := by rw [hr]; exact congrArg (fun z => Int.tmod z n) (if_neg hn2)
        refine ⟨⟨by omega⟩, fin ?_⟩
        rw [hr']
        have eq := hquo _ e
        refine Eq.trans (congrArg (fun z => Ω.ar .rem .i64 (Ω.ar .add .i64 (Ω.wrap .i64 g1) (Ω.ar .mul .i64 z 37)) n) eq) ?_
        subst hΩ
        show (IntKind.i64.wrap (IntKind.i64.wrap g1 + IntKind.i64.wrap (d * 37))).tmod n = _
        rw [hvw]
  · unfold nxt
    rw [if_neg (by omega)]
    split
    · exact ⟨Int.tmod_nonneg _ (by omega), Int.tmod_lt_of_pos _ (by omega)⟩
    · rename_i hk0
      obtain ⟨d1, d2⟩ := tdivB h0 (show (0 : Int) < k by omega)
      have hvb := hfb (p.tmod k).toNat
      have hvb2 := hfb ((p + 1).tmod k).toNat
      refine ⟨Int.tmod_nonneg _ ?_, Int.tmod_lt_of_pos _ (by omega)⟩
      split <;> omega
/-- What a draw comes to: bytes are read on, K of them at most; what is handed back is as Q says. -/
def DR (bs : List A) (p K : Int) (rest : List A) (Q : A → Prop) : A → List A → Prop := fun x o => ∃ q, p ≤ q ∧ q ≤ p + K ∧ o = src bs q :: rest ∧ Q x
theorem call_dr {P : Program} {S : State} {Ω : Opq} (fz : Bool) (hΩ : Ω = std) (k : Nat) {g r : Nat} {bs rest : List A} {p K : Int} {Q : A → Prop} {Kc : A → State → Prop} (hc : XCtr P g (src bs p :: rest) (DR bs p K rest Q))
    (hr : Fw.rowAt S.rows r = some ⟨2, [.agg [.sl false 1 bs, i64 p]], true⟩) (hrd : rest.all isData = true) (hrn : rest.all noOwn = true)
    (h : ∀ q x, p ≤ q → q ≤ p + K → Q x → noOwn (rootO Ω k (S.mut [(r, [.agg [.sl false 1 bs, i64 q]])]) (fzA fz x)).1 = true ∧
      Kc (rootO Ω k (S.mut [(r, [.agg [.sl false 1 bs, i64 q]])]) (fzA fz x)).1 (rootO Ω k (S.mut [(r, [.agg [.sl false 1 bs, i64 q]])]) (fzA fz x)).2) : CallX P g (.pt r 0 0 :: rest) S Kc :=
  call_box (row := ⟨2, [.agg [.sl false 1 bs, i64 p]], true⟩) hΩ k fz hc hr rfl rfl rfl rfl hrd hrn fun x outs ⟨q, h1, h2, h3, h4⟩ => ⟨[.sl false 1 bs, i64 q], h3, rfl, rfl, h q x h1 h2 h4⟩
theorem d_l1Next {bs : List A} (hb : Src bs) (p n : Int) (h0 : 0 ≤ p) (h1 : p ≤ 1099511627776) (hn : n ≤ 4294967296) :
    XCtr PP n_spec_l1Next [src bs p, i64 n] (DR bs p 1 [i64 n] fun x => ∃ r, x = i64 r ∧ (n < 1 → r = 0) ∧ (1 ≤ n → 0 ≤ r ∧ r < n)) := by
  obtain ⟨r, h, h2⟩ := c_l1Next hb p n h0 h1 hn
  exact h.x ⟨p + 1, by omega, by omega, rfl, r, rfl, h2⟩
theorem d_l1Chance {bs : List A} (hb : Src bs) (p n : Int) (h0 : 0 ≤ p) (h1 : p ≤ 1099511627776) (hn : n ≤ 4294967296) :
    XCtr PP n_spec_l1Chance [src bs p, i64 n] (DR bs p 1 [i64 n] fun x => ∃ b, x = boo b) := by
  obtain ⟨Ω, hΩ⟩ : ∃ Ω, Ω = std := ⟨_, rfl⟩
  have hN := d_l1Next hb p n h0 h1 hn
  have htab := tab
  refine XCtr.walkO tab hΩ 3 fn_spec_l1Chance rfl rfl ?_
  generalize PP = P at *
  cbv
  refine call_dr false hΩ 3 hN rfl rfl rfl (fun q x q1 q2 ⟨r, hx, hr⟩ => ?_)
  subst hx
  cbv
  exact ⟨_, _, .same, .same, ⟨q, by omega, by omega, rfl, _, rfl⟩, rfl⟩
/-- A list that is handed over to be picked from, and given back. -/
def PR (bs : List A) (p : Int) (ns : List Int) : A → List A → Prop := fun x o => ∃ q, p ≤ q ∧ q ≤ p + 1 ∧ o = [src bs q, .sl true 1 (ns.map i64)] ∧ ∃ n, n ∈ ns ∧ x = i64 n
theorem d_l1Pick {bs : List A} (hb : Src bs) (p : Int) (ns : List Int) (h0 : 0 ≤ p) (h1 : p ≤ 1099511627776) (hn0 : 0 < ns.length) (hn : ns.length ≤ 4294967296) :
    XCtr PP n_spec_l1Pick [src bs p, .sl true 1 (ns.map i64)] (PR bs p ns) := by
  obtain ⟨Ω, hΩ⟩ : ∃ Ω, Ω = std := ⟨_, rfl⟩
  have hN := fun n => d_l1Next hb p n h0 h1
  obtain ⟨xs, hxs⟩ : ∃ xs, xs = ns.map i64 := ⟨_, rfl⟩
  have hlen : xs.length = ns.length := by rw [hxs, List.length_map]
  rw [← hxs]
  have hat : ∀ r, 0 ≤ r → r < Ω.int (Ω.len xs) → ∃ n, n ∈ ns ∧ xs[Ω.plus 0 (Ω.nat r)]? = some (i64 n) ∧ 0 ≤ r ∧ r < (Ω.len xs : Int) := fun r h0 h => by
    subst hΩ
    have h : r < (xs.length : Int) := h
    obtain ⟨n, hn⟩ := at_of (cs := ns) (i := r.toNat) (by omega)
    refine ⟨n, List.mem_of_getElem? hn, ?_, h0, h⟩
    show xs[0 + r.toNat]? = _
    rw [Nat.zero_add, hxs, List.getElem?_map, hn]; rfl
  have hpos : 1 ≤ Ω.int (Ω.len xs) := by subst hΩ; show (1 : Int) ≤ xs.length; omega
  have hle : Ω.int (Ω.len xs) ≤ 4294967296 := by subst hΩ; show (xs.length : Int) ≤ _; omega
  have hout : ∀ q n, p ≤ q → q ≤ p + 1 → n ∈ ns → PR bs p ns (i64 n) [src bs q, .sl true 1 xs] := fun q n q1 q2 hm => ⟨q, q1, q2, by rw [hxs], n, hm, rfl⟩
  generalize hRR : PR bs p ns = RR at *
  have htab := tab
  refine XCtr.walkO tab hΩ 3 fn_spec_l1Pick rfl rfl ?_
  generalize PP = P at *
  cbv
  refine call_dr false hΩ 3 (hN _ hle) rfl rfl rfl (fun q x q1 q2 ⟨r, hx, hr⟩ => ?_)
  subst hx
  cbv
  obtain ⟨n, hm, hat, ha1, ha2⟩ := hat r (hr.2 hpos).1 (hr.2 hpos).2
  refine ⟨⟨ha1, ha2⟩, _, hat, ?_⟩
  cbv
  exact ⟨⟨rfl, by subst hΩ; exact Nat.le_refl _⟩, _, _, .same, .of (by subst hΩ; show [_, A.sl true 1 (List.take xs.length xs)] = [src bs q, A.sl true 1 xs]; rw [List.take_length]; rfl), hout q n q1 q2 hm, rfl⟩
theorem call_pick {P : Program} {S : State} {Ω : Opq} (hΩ : Ω = std) {g r r2 len : Nat} {bs : List A} {p : Int} {ns : List Int} {xs : List A} {Kc : A → State → Prop} (hc : XCtr P g [src bs p, .sl true 1 (ns.map i64)] (PR bs p ns))
    (hr : Fw.rowAt S.rows r = some ⟨2, [.agg [.sl false 1 bs, i64 p]], true⟩) (hr2 : Fw.rowAt S.rows r2 = some ⟨1, xs, false⟩) (hxs : xs = ns.map i64) (hl : len = xs.length) (hne : r ≠ r2)
    (h : ∀ q n, p ≤ q → q ≤ p + 1 → n ∈ ns → Kc (i64 n) (S.mut [(r, [.agg [.sl false 1 bs, i64 q]]), (r2, xs)])) : CallX P g [.pt r 0 0, .vw r2 0 len] S Kc := by
  have hm : ∀ q : Int, MutL S [.pt r 0 0, .vw r2 0 len] [src bs p, .sl true 1 xs] [src bs q, .sl true 1 xs] [(r, [.agg [.sl false 1 bs, i64 q]]), (r2, xs)] := fun q =>
    .cons (l := [(r, [.agg [.sl false 1 bs, i64 q]])]) (ls := [(r2, xs)]) (.pt (row := ⟨2, [.agg [.sl false 1 bs, i64 p]], true⟩) (ys' := [.sl false 1 bs, i64 q]) hr rfl rfl rfl rfl)
      (.cons (l := [(r2, xs)]) (ls := []) (.row (row := ⟨1, xs, false⟩) hr2 rfl hl rfl) .nil)
  rw [← hxs] at hc
  refine call_rel hΩ 1 hc [(r, [.agg [.sl false 1 bs, i64 p]]), (r2, xs)] (by simp [hne]) ⟨_, hm p⟩ ?_
  rintro x o ⟨q, q1, q2, rfl, n, hn, rfl⟩
  rw [← hxs]
  exact ⟨[(r, [.agg [.sl false 1 bs, i64 q]]), (r2, xs)], rfl, hm q, rfl, h q n q1 q2 hn⟩
/-- One of some texts. -/
theorem nth_of {α : Type} {Ω : Opq} (hΩ : Ω = std) {f : α → A} {ns : List α} {xs : List A} {r : Int} (hxs : xs = ns.map f) (h0 : 0 ≤ r) (h1 : r < (ns.length : Int)) : ∃ n, n ∈ ns ∧ xs[Ω.plus 0 (Ω.nat r)]? = some (f n) := by
  subst hΩ
  obtain ⟨n, hn⟩ := at_of (cs := ns) (i := r.toNat) (by omega)
  refine ⟨n, List.mem_of_getElem? hn, ?_⟩
  show xs[0 + r.toNat]? = _
  rw [Nat.zero_add, hxs, List.getElem?_map, hn]; rfl
theorem d_l1DrawName {bs : List A} (hb : Src bs) (p : Int) (h0 : 0 ≤ p) (h1 : p ≤ 1099511627776) : XCtr PP n_spec_l1DrawName [src bs p] (DR bs p 1 [] fun x => ∃ n, x = str n) := by
  obtain ⟨Ω, hΩ⟩ : ∃ Ω, Ω = std := ⟨_, rfl⟩
  have hN := fun n => d_l1Next hb p n h0 h1
  have htab := tab
  refine XCtr.walkO tab hΩ 3 fn_spec_l1DrawName rfl rfl ?_
  generalize PP = P at *
  cbv
  refine call_dr false hΩ 3 (hN 6 (by omega)) rfl rfl rfl (fun q x q1 q2 ⟨r, hx, hr⟩ => ?_)
  subst hx
  cbv
  obtain ⟨nm, _, hnm⟩ := nth_of (f := str) (ns := [[97], [98], [99], [100], [108, 105, 98], [119, 101, 98]]) hΩ rfl (hr.2 (by omega)).1 (hr.2 (by omega)).2
  refine ⟨⟨hr.2 (by omega)⟩, _, hnm, ?_⟩
  cbv
  exact ⟨_, _, .same, .same, ⟨q, by omega, by omega, rfl, _, rfl⟩, rfl⟩
theorem d_l1BentName {bs : List A} (hb : Src bs) (p : Int) (h0 : 0 ≤ p) (h1 : p + 2 ≤ 1099511627776) : XCtr PP n_spec_l1BentName [src bs p] (DR bs p 2 [] fun x => ∃ n, x = str n) := by
  obtain ⟨Ω, hΩ⟩ : ∃ Ω, Ω = std := ⟨_, rfl⟩
  have hC := fun p n a b c => d_l1Chance hb p n a b c
  have hN := fun p n a b c => d_l1Next hb p n a b c
  have hl1DrawName := fun p a b => d_l1DrawName hb p a b
  have htab := tab
  have hmo := hmo
  refine XCtr.walkO tab hΩ 3 fn_spec_l1BentName rfl rfl ?_
  generalize PP = P at *
  cbv
  repeat' (first | (refine br (fun h => ?_) (fun h => ?_) <;> cbv) | (refine call_dr false hΩ 3 (hC _ _ (by omega) (by omega) (by omega)) rfl rfl rfl (fun q x q1 q2 ⟨r, hx⟩ => ?_); subst hx; cbv) | (refine call_dr false hΩ 3 (hN _ 9 (by omega) (by omega) (by omega)) rfl rfl rfl (fun q x q1 q2 ⟨r, hx, hr⟩ => ?_); subst hx; cbv; obtain ⟨nm, _, hnm⟩ := nth_of (f := str) (ns := [[], [49, 97], [65], [97, 98, 99, 100, 101, 102, 103, 104, 105, 106, 107, 108, 109], [97, 98, 99, 100, 101, 102, 103, 104, 105, 106, 107, 108], [97, 32, 98], [97, 45], [95, 97], [97, 95, 49]]) hΩ rfl (hr.2 (by omega)).1 (hr.2 (by omega)).2; refine ⟨⟨hr.2 (by omega)⟩, _, hnm, ?_⟩; cbv) | (refine call_dr false hΩ 3 (hl1DrawName _ (by omega) (by omega)) rfl rfl rfl (fun q x q1 q2 ⟨r, hx⟩ => ?_); subst hx; cbv) | (exact ⟨_, _, .same, .same, ⟨_, by omega, by omega, rfl, _, rfl⟩, rfl⟩))
theorem d_l1Version {bs : List A} (hb : Src bs) (p : Int) (h0 : 0 ≤ p) (h1 : p + 5 ≤ 1099511627776) : XCtr PP n_spec_l1Version [src bs p] (DR bs p 5 [] fun x => ∃ v : Ver, x = v.enc) := by
  obtain ⟨Ω, hΩ⟩ : ∃ Ω, Ω = std := ⟨_, rfl⟩
  have hN := fun p n a b c => d_l1Next hb p n a b c
  have hP := fun p ns a b c d => d_l1Pick hb p ns a b c d
  have htab := tab
  have hmo := hmo
  refine XCtr.walkO tab hΩ 3 fn_spec_l1Version rfl rfl ?_
  generalize PP = P at *
  cbv
  repeat' (first | (refine call_dr false hΩ 3 (hN _ _ (by omega) (by omega) (by omega)) rfl rfl rfl (fun q x q1 q2 ⟨r, hx, hr⟩ => ?_); subst hx; cbv) | (refine call_pick (ns := [0, 0, _]) hΩ (hP _ _ (by omega) (by omega) (Nat.zero_lt_succ _) (Nat.le_of_ble_eq_true rfl)) rfl rfl rfl rfl (by decide) (fun q n q1 q2 hn => ?_); cbv) | (refine call_pick (ns := [0, 0, 0, _]) hΩ (hP _ _ (by omega) (by omega) (Nat.zero_lt_succ _) (Nat.le_of_ble_eq_true rfl)) rfl rfl rfl rfl (by decide) (fun q n q1 q2 hn => ?_); cbv) | (exact ⟨_, _, .same, .same, ⟨_, by omega, by omega, rfl, ⟨_, _, _⟩, rfl⟩, rfl⟩))
theorem d_l1BentVersion {bs : List A} (hb : Src bs) (p : Int) (h0 : 0 ≤ p) (h1 : p + 7 ≤ 1099511627776) : XCtr PP n_spec_l1BentVersion [src bs p] (DR bs p 7 [] fun x => ∃ v : Ver, x = v.enc) := by
  obtain ⟨Ω, hΩ⟩ : ∃ Ω, Ω = std := ⟨_, rfl⟩
  have hN := fun p n a b c => d_l1Next hb p n a b c
  have hP := fun p ns a b c d => d_l1Pick hb p ns a b c d
  have hl1Version := fun p a b => d_l1Version hb p a b
  have htab := tab
  have hmo := hmo
  refine XCtr.walkO tab hΩ 3 fn_spec_l1BentVersion rfl rfl ?_
  generalize PP = P at *
  cbv
  repeat' (first | (refine br (fun h => ?_) (fun h => ?_) <;> cbv) | (refine call_dr false hΩ 3 (hl1Version _ (by omega) (by omega)) rfl rfl rfl (fun q x q1 q2 ⟨r, hx⟩ => ?_); obtain ⟨ra, rb, rc⟩ := r; subst hx; cbv) | (refine call_dr false hΩ 3 (hN _ _ (by omega) (by omega) (by omega)) rfl rfl rfl (fun q x q1 q2 ⟨r, hx, hr⟩ => ?_); subst hx; cbv) | (refine call_pick (ns := [-1, 999, 1000]) hΩ (hP _ _ (by omega) (by omega) (Nat.zero_lt_succ _) (Nat.le_of_ble_eq_true rfl)) rfl rfl rfl rfl (by decide) (fun q n q1 q2 hn => ?_); cbv) | (refine call_pick (ns := [-1, 999, 1000, 4611686018427387904]) hΩ (hP _ _ (by omega) (by omega) (Nat.zero_lt_succ _) (Nat.le_of_ble_eq_true rfl)) rfl rfl rfl rfl (by decide) (fun q n q1 q2 hn => ?_); cbv) | (exact ⟨_, _, .same, .same, ⟨_, by omega, by omega, rfl, ⟨_, _, _⟩, rfl⟩, rfl⟩))
theorem d_AnyTerm (n : List UInt8) : PCtr PP n_spec_AnyTerm [str n] (inTop n).enc := by
  obtain ⟨Ω, hΩ⟩ : ∃ Ω, Ω = std := ⟨_, rfl⟩
  have hT := c_specTop
  have htab := tab
  refine PCtr.walk tab hΩ fn_spec_AnyTerm rfl ?_
  generalize PP = P at *
  cbv
  refine call_pure hΩ 3 hT rfl (fits _) rfl rfl ?_
  cbv
  exact .same
theorem d_l1Term {bs : List A} (hb : Src bs) (p : Int) (h0 : 0 ≤ p) (h1 : p + 9 ≤ 1099511627776) : XCtr PP n_spec_l1Term [src bs p] (DR bs p 9 [] fun x => ∃ t : Trm, x = t.enc) := by
  obtain ⟨Ω, hΩ⟩ : ∃ Ω, Ω = std := ⟨_, rfl⟩
  have hA := d_AnyTerm
  have hN := fun p n a b c => d_l1Next hb p n a b c
  have hC := fun p n a b c => d_l1Chance hb p n a b c
  have hl1DrawName := fun p a b => d_l1DrawName hb p a b
  have hl1Version := fun p a b => d_l1Version hb p a b
  have htab := tab
  have hmo := hmo
  refine XCtr.walkO tab hΩ 3 fn_spec_l1Term rfl rfl ?_
  generalize PP = P at *
  cbv
  repeat' (first | (refine br (fun h => ?_) (fun h => ?_) <;> cbv) | (refine call_dr false hΩ 3 (hC _ _ (by omega) (by omega) (by omega)) rfl rfl rfl (fun q x q1 q2 ⟨r, hx⟩ => ?_); subst hx; cbv) | (refine call_dr false hΩ 3 (hl1DrawName _ (by omega) (by omega)) rfl rfl rfl (fun q x q1 q2 ⟨r, hx⟩ => ?_); subst hx; cbv) | (refine call_dr false hΩ 3 (hl1Version _ (by omega) (by omega)) rfl rfl rfl (fun q x q1 q2 ⟨r, hx⟩ => ?_); obtain ⟨ra, rb, rc⟩ := r; subst hx; cbv) | (refine call_pure hΩ 3 (hA _) rfl (fits _) rfl rfl ?_; cbv) | (refine ⟨VC_lent htab hΩ hmo [0, 1, 2, 3] [4, 5, 6, 7] [8, 9] [2] [3] (by kernel_rfl) ?_⟩; cbv; intro vs; cbv) | (refine call_dr false hΩ 3 (hN _ _ (by omega) (by omega) (by omega)) rfl rfl rfl (fun q x q1 q2 ⟨r, hx, hr⟩ => ?_); subst hx; cbv) | (exact ⟨_, _, .same, .same, ⟨_, by omega, by omega, rfl, ⟨_, ⟨_, _, _⟩, ⟨_, _, _⟩⟩, rfl⟩, rfl⟩))
theorem d_l1BentTerm {bs : List A} (hb : Src bs) (p : Int) (h0 : 0 ≤ p) (h1 : p + 17 ≤ 1099511627776) : XCtr PP n_spec_l1BentTerm [src bs p] (DR bs p 17 [] fun x => ∃ t : Trm, x = t.enc) := by
  obtain ⟨Ω, hΩ⟩ : ∃ Ω, Ω = std := ⟨_, rfl⟩
  have hN := fun p n a b c => d_l1Next hb p n a b c
  have hl1BentName := fun p a b => d_l1BentName hb p a b
  have hl1BentVersion := fun p a b => d_l1BentVersion hb p a b
  have hl1Term := fun p a b => d_l1Term hb p a b
  have htab := tab
  have hmo := hmo
  refine XCtr.walkO tab hΩ 3 fn_spec_l1BentTerm rfl rfl ?_
  generalize PP = P at *
  cbv
  repeat' (first | (refine br (fun h => ?_) (fun h => ?_) <;> cbv) | (refine call_dr false hΩ 3 (hN _ _ (by omega) (by omega) (by omega)) rfl rfl rfl (fun q x q1 q2 ⟨r, hx, hr⟩ => ?_); subst hx; cbv) | (refine call_dr false hΩ 3 (hl1BentName _ (by omega) (by omega)) rfl rfl rfl (fun q x q1 q2 ⟨r, hx⟩ => ?_); subst hx; cbv) | (refine call_dr false hΩ 3 (hl1BentVersion _ (by omega) (by omega)) rfl rfl rfl (fun q x q1 q2 ⟨r, hx⟩ => ?_); obtain ⟨ra, rb, rc⟩ := r; subst hx; cbv) | (refine call_dr false hΩ 3 (hl1Term _ (by omega) (by omega)) rfl rfl rfl (fun q x q1 q2 ⟨r, hx⟩ => ?_); obtain ⟨rn, ⟨ra, rb, rc⟩, ⟨rd, re, rf⟩⟩ := r; subst hx; cbv) | (exact ⟨_, _, .same, .same, ⟨_, by omega, by omega, rfl, ⟨_, ⟨_, _, _⟩, ⟨_, _, _⟩⟩, rfl⟩, rfl⟩))
end Go.Proofs.YtomfmdfamlmfiaaGreat

/- Walks: names. Plain theorems. -/
set_option linter.unusedVariables false
set_option linter.unusedSimpArgs false
namespace Go.Proofs.YtomfmdfamlmfiaaGreat
open Go Go.Fw
set_option maxRecDepth 100000
theorem ltS {Ω : Opq} (hΩ : Ω = std) {i : Nat} {xs : List UInt8} (h : Ω.cmp .lss (Ω.int i) (Ω.int (Ω.lenS xs)) = true) : i < xs.length := by
  subst hΩ
  have h : (i : Int) < xs.length := lt_t h
  omega
theorem geS {Ω : Opq} (hΩ : Ω = std) {i : Nat} {xs : List UInt8} (h : Ω.cmp .lss (Ω.int i) (Ω.int (Ω.lenS xs)) = false) : xs.length ≤ i := by
  subst hΩ
  have h : (xs.length : Int) ≤ i := lt_f h
  omega
theorem c_implNameFault (s : List UInt8) : PCtr PP n_impl_NameFault [str s] (i64 (nameF s)) := by
  obtain ⟨Ω, hΩ⟩ : ∃ Ω, Ω = std := ⟨_, rfl⟩
  obtain ⟨r, hr⟩ : ∃ r, r = nameF s := ⟨_, rfl⟩
  rw [← hr]
  have hc : ∀ c, PCtr PP n_impl_isNameByte [.sc (.int .u8 (Ω.u8 c))] (boo (nameB c)) := by subst hΩ; exact c_isNameByte
  unfold nameF at hr
  generalize nameB = F at *
  have htab := tab
  have hle : Ω.lenS s = s.length := by subst hΩ; rfl
  refine PCtr.walk tab hΩ fn_impl_NameFault rfl ?_
  generalize PP = P at *
  cbv
  refine br (fun h1 => ?_) (fun h1 => ?_) <;> cbv
  · exact .of (congrArg i64 (by rw [hr, if_pos (by subst hΩ; exact lt_t h1)]))
  rw [if_neg (by subst hΩ; exact Int.not_lt.2 (lt_f h1))] at hr
  refine br (fun h2 => ?_) (fun h2 => ?_) <;> cbv
  · exact .of (congrArg i64 (by rw [hr, if_pos (by subst hΩ; exact gt_t h2)]))
  rw [if_neg (by subst hΩ; exact Int.not_lt.2 (gt_f h2))] at hr
  have hs : s.length ≤ 12 := by subst hΩ; have h2 : (s.length : Int) ≤ 12 := gt_f h2; omega
  obtain ⟨c0, s', hs0⟩ : ∃ c s', s = c :: s' := by
    subst hΩ
    have h1 : (1 : Int) ≤ s.length := lt_f h1
    cases s with
    | nil => simp at h1
    | cons c s' => exact ⟨_, _, rfl⟩
  rw [show s.headD 0 = c0 by rw [hs0]; rfl] at hr
  refine ⟨⟨by decide⟩, c0, by rw [hs0]; rfl, ?_⟩
  cbv
  refine br (fun h3 => ?_) (fun h3 => ?_) <;> cbv
  · exact .of (congrArg i64 (by rw [hr, if_neg (by subst hΩ; have h3 : (c0.toNat : Int) < 97 := lt_t h3; unfold letterB; simp; omega)]))
  refine ⟨⟨by decide⟩, c0, by rw [hs0]; rfl, ?_⟩
  cbv
  refine br (fun h4 => ?_) (fun h4 => ?_) <;> cbv
  · exact .of (congrArg i64 (by rw [hr, if_neg (by subst hΩ; have h4 : 122 < (c0.toNat : Int) := gt_t h4; unfold letterB; simp; omega)]))
  rw [if_pos (by subst hΩ; have h3 : 97 ≤ (c0.toNat : Int) := lt_f h3; have h4 : (c0.toNat : Int) ≤ 122 := gt_f h4; unfold letterB; simp; omega)] at hr
  refine loopX htab hΩ (fun i : Nat => ⟨[(0, .sc (.string (mkS s))), (23, .sc (.int .i64 (Ω.int (Ω.lenS s)))), (24, .sc (.int .i64 (Ω.int i)))], 33, []⟩) (fun i => i ≤ s.length ∧ r = allCode F 5 (s.drop i)) (fun i => s.length - i) 0
    ⟨Nat.zero_le _, hr⟩ (Sbs.mk rfl rfl ⟨rfl, rfl, zeroI hΩ, trivial⟩) ?_
  rintro i ⟨hi, he⟩
  cbv
  refine br (fun h => ?_) (fun h => ?_) <;> cbv
  · replace h := ltS hΩ h
    obtain ⟨c, hcc⟩ := at_of (cs := s) h
    rw [allCode_at _ _ hcc] at he
    refine ⟨⟨nnI hΩ⟩, c, by subst hΩ; exact hcc, ?_⟩
    cbv
    refine call_pure hΩ 3 (hc c) rfl (fits _) rfl rfl ?_
    cbv
    refine br (fun g => ?_) (fun g => ?_) <;> cbv
    · exact .of (congrArg i64 (by rw [he, notT' hΩ g]; rfl))
    · rw [notF' hΩ g] at he
      exact ⟨i + 1, ⟨by omega, he⟩, by omega, Sbs.mk rfl rfl ⟨rfl, rfl, incI hΩ (by omega), trivial⟩⟩
  · replace h := geS hΩ h
    exact .of (congrArg i64 (by rw [he, List.drop_of_length_le h]; rfl))
theorem c_specNameFault (s : List UInt8) : PCtr PP n_spec_NameFault [str s] (i64 (nameF s)) := by
  obtain ⟨Ω, hΩ⟩ : ∃ Ω, Ω = std := ⟨_, rfl⟩
  obtain ⟨r, hr⟩ : ∃ r, r = nameF s := ⟨_, rfl⟩
  rw [← hr]
  have hc : ∀ c, PCtr PP n_spec_l1Name [.sc (.int .u8 (Ω.u8 c))] (boo (nameB c)) := by subst hΩ; exact c_l1Name
  unfold nameF at hr
  generalize nameB = F at *
  have hc2 := c_l1Letter
  have htab := tab
  have hle : Ω.lenS s = s.length := by subst hΩ; rfl
  refine PCtr.walk tab hΩ fn_spec_NameFault rfl ?_
  generalize PP = P at *
  cbv
  refine br (fun h1 => ?_) (fun h1 => ?_) <;> cbv
  · exact .of (congrArg i64 (by rw [hr, if_pos (by subst hΩ; exact lt_t h1)]))
  rw [if_neg (by subst hΩ; exact Int.not_lt.2 (lt_f h1))] at hr
  refine br (fun h2 => ?_) (fun h2 => ?_) <;> cbv
  · exact .of (congrArg i64 (by rw [hr, if_pos (by subst hΩ; exact gt_t h2)]))
  rw [if_neg (by subst hΩ; exact Int.not_lt.2 (gt_f h2))] at hr
  have hs : s.length ≤ 12 := by subst hΩ; have h2 : (s.length : Int) ≤ 12 := gt_f h2; omega
  obtain ⟨c0, s', hs0⟩ : ∃ c s', s = c :: s' := by
    subst hΩ
    have h1 : (1 : Int) ≤ s.length := lt_f h1
    cases s with
    | nil => simp at h1
    | cons c s' => exact ⟨_, _, rfl⟩
  rw [show s.headD 0 = c0 by rw [hs0]; rfl] at hr
  refine ⟨⟨by decide⟩, c0, by rw [hs0]; rfl, ?_⟩
  cbv
  have hl : PCtr P n_spec_l1Letter [.sc (.int .u8 (Ω.u8 c0))] (boo (letterB c0)) := by subst hΩ; exact hc2 c0
  generalize letterB c0 = b at *
  refine call_pure hΩ 3 hl rfl (fits _) rfl rfl ?_
  cbv
  refine br (fun h3 => ?_) (fun h3 => ?_) <;> cbv
  · exact .of (congrArg i64 (by rw [hr, notT' hΩ (b := b) (by subst hΩ; exact h3)]; rfl))
  rw [notF' hΩ (b := b) (by subst hΩ; exact h3), if_pos rfl] at hr
  refine loopX htab hΩ (fun i : Nat => ⟨[(0, .sc (.string (mkS s))), (3, .sc (.int .i64 (Ω.int i)))], 29, []⟩) (fun i => i ≤ s.length ∧ r = allCode F 5 (s.drop i)) (fun i => s.length - i) 0
    ⟨Nat.zero_le _, hr⟩ (Sbs.mk rfl rfl ⟨rfl, zeroI hΩ, trivial⟩) ?_
  rintro i ⟨hi, he⟩
  cbv
  refine br (fun h => ?_) (fun h => ?_) <;> cbv
  · replace h := ltS hΩ h
    obtain ⟨c, hcc⟩ := at_of (cs := s) h
    rw [allCode_at _ _ hcc] at he
    refine ⟨⟨nnI hΩ⟩, c, by subst hΩ; exact hcc, ?_⟩
    cbv
    refine call_pure hΩ 3 (hc c) rfl (fits _) rfl rfl ?_
    cbv
    refine br (fun g => ?_) (fun g => ?_) <;> cbv
    · exact .of (congrArg i64 (by rw [he, notT' hΩ g]; rfl))
    · rw [notF' hΩ g] at he
      exact ⟨i + 1, ⟨by omega, he⟩, by omega, Sbs.mk rfl rfl ⟨rfl, incI hΩ (by omega), trivial⟩⟩
  · replace h := geS hΩ h
    exact .of (congrArg i64 (by rw [he, List.drop_of_length_le h]; rfl))
end Go.Proofs.YtomfmdfamlmfiaaGreat

/- Versions are compared as structs. Plain theorems. -/
set_option linter.unusedVariables false
set_option linter.unusedSimpArgs false
namespace Go.Proofs.YtomfmdfamlmfiaaGreat
open Go Go.Fw
theorem verFields : PP.fieldsOf 58 = #[⟨"A", 2, 0, false, "", "", 0⟩, ⟨"B", 2, 1, false, "", "", 8⟩, ⟨"C", 2, 2, false, "", "", 16⟩] := by kernel_rfl
theorem verUnder : PP.underlying 58 = some (.struct (PP.fieldsOf 58)) := by kernel_rfl
theorem verIn : PP.stoodInHeld 58 = false := by kernel_rfl
theorem verG : PP.eqGuardType PP.depth 58 = false := by kernel_rfl
theorem agg2 : aggT PP 2 = some false := by kernel_rfl
theorem under2 : PP.underlying 2 = some (.int .i64) := by kernel_rfl
def Ver.vals (v : Ver) : List Value := [.int .i64 v.a, .int .i64 v.b, .int .i64 v.c]
theorem part2 {P : Program} (h : aggT P 2 = some false) {cs : Array Value} {i : Nat} {v : Value} (hv : cs[i]? = some v) (w : World) : (part 2 cs i).run P w = .ok v w := by
  simp [part, run_isAgg h, hv]
theorem ver_equal (a b : Ver) (w : World) : (Op.equal 58 (.agg a.vals.toArray) (.agg b.vals.toArray)).run PP w = .ok (decide (a = b)) w := by
  show (Op.equalIn (9999 + 1) 58 _ _).run PP w = _
  rw [run_equalIn_struct w 9999 58 _ _ verUnder verIn, verFields]
  have hu := under2
  have ha := agg2
  generalize PP = P at *
  have e : decide (a = b) = ((a.a == b.a) && ((a.b == b.b) && (a.c == b.c))) := by
    cases a; cases b
    rw [Bool.eq_iff_iff]; simp
  rw [e]
  have p0 : ∀ (v : Ver), (part 2 v.vals.toArray 0).run P w = .ok (.int .i64 v.a) w := fun v => part2 ha rfl w
  have p1 : ∀ (v : Ver), (part 2 v.vals.toArray 1).run P w = .ok (.int .i64 v.b) w := fun v => part2 ha rfl w
  have p2 : ∀ (v : Ver), (part 2 v.vals.toArray 2).run P w = .ok (.int .i64 v.c) w := fun v => part2 ha rfl w
  have q : ∀ x y : Int, (Op.equalIn 9999 2 (.int .i64 x) (.int .i64 y)).run P w = .ok (x == y) w := fun x y => run_equalIn_int w 9998 2 .i64 .i64 x y hu
  generalize hd : 9999 = d at q ⊢
  simp only [Op.eqFields, Sem.run_bind, Sem.run_ite, p0, p1, p2, q, Result.andThen_ok]
  cases h1 : (a.a == b.a) <;> cases h2 : (a.b == b.b) <;> cases h3 : (a.c == b.c) <;> simp
theorem ver_guard (op : BinOp) (x y : Operand) (a b : Ver) (w : World) : (eqGuard op 58 x y (.agg a.vals.toArray) (.agg b.vals.toArray)).run PP w = .ok () w := by
  have hg := verG
  generalize PP = P at *
  have h1 : ∀ b : Bool, P.eqGuardType P.depth 58 = true → b = false → False := fun b h => by rw [hg] at h; cases h
  unfold eqGuard
  split
  · simp
    intro h; rw [hg] at h; cases h
  · simp
    intro h; rw [hg] at h; cases h
  · simp
theorem ver_neq (a b : Ver) (x y : Operand) (w : World) : (do eqGuard .neq 58 x y (.agg a.vals.toArray) (.agg b.vals.toArray); binOp .neq 58 (.agg a.vals.toArray) (.agg b.vals.toArray) : Sem Value).run PP w = .ok (.bool (!decide (a = b))) w := by
  have h := ver_equal a b w
  have g := ver_guard .neq x y a b w
  generalize PP = P at *
  simp only [Sem.run_bind, g, Result.andThen_ok, binOp, h]
  rfl
theorem ver_eql (a b : Ver) (x y : Operand) (w : World) : (do eqGuard .eql 58 x y (.agg a.vals.toArray) (.agg b.vals.toArray); binOp .eql 58 (.agg a.vals.toArray) (.agg b.vals.toArray) : Sem Value).run PP w = .ok (.bool (decide (a = b))) w := by
  have h := ver_equal a b w
  have g := ver_guard .eql x y a b w
  generalize PP = P at *
  simp only [Sem.run_bind, g, Result.andThen_ok, binOp, h]
  rfl
structure VerEq (P : Program) : Prop where
  neq : ∀ (a b : Ver) (x y : Operand) (w : World), (do eqGuard .neq 58 x y (.agg a.vals.toArray) (.agg b.vals.toArray); binOp .neq 58 (.agg a.vals.toArray) (.agg b.vals.toArray) : Sem Value).run P w = .ok (.bool (!decide (a = b))) w
  eql : ∀ (a b : Ver) (x y : Operand) (w : World), (do eqGuard .eql 58 x y (.agg a.vals.toArray) (.agg b.vals.toArray); binOp .eql 58 (.agg a.vals.toArray) (.agg b.vals.toArray) : Sem Value).run P w = .ok (.bool (decide (a = b))) w
theorem verEq : VerEq PP := ⟨ver_neq, ver_eql⟩
theorem eqX_neq {P : Program} (hP : VerEq P) (a b : Ver) {k : A → Prop} (h : k (boo (!decide (a = b)))) : EqX P .neq 58 a.cells b.cells k := ⟨_, _, _, rfl, rfl, hP.neq a b, h⟩
theorem eqX_eql {P : Program} (hP : VerEq P) (a b : Ver) {k : A → Prop} (h : k (boo (decide (a = b)))) : EqX P .eql 58 a.cells b.cells k := ⟨_, _, _, rfl, rfl, hP.eql a b, h⟩
end Go.Proofs.YtomfmdfamlmfiaaGreat

/- Walks: terms. Plain theorems. -/
set_option linter.unusedVariables false
set_option linter.unusedSimpArgs false
namespace Go.Proofs.YtomfmdfamlmfiaaGreat
open Go Go.Fw
set_option maxRecDepth 100000
def idxFrom {α : Type} (p : α → Bool) : Nat → List α → Int
  | _, [] => -1
  | i, x :: xs => if p x then (i : Int) else idxFrom p (i + 1) xs
def orF : List Int → Int
  | [] => 0
  | x :: xs => if x ≠ 0 then x else orF xs
theorem orF_at {cs : List Int} {i : Nat} {c : Int} (h : cs[i]? = some c) : orF (cs.drop i) = if c ≠ 0 then c else orF (cs.drop (i + 1)) := by
  obtain ⟨h1, h2⟩ := List.getElem?_eq_some_iff.1 h
  rw [List.drop_eq_getElem_cons h1, h2, orF]
def idx {α : Type} (p : α → Bool) (l : List α) : Int := idxFrom p 0 l
theorem idxFrom_at {α : Type} (p : α → Bool) {cs : List α} {i : Nat} {c : α} (h : cs[i]? = some c) : idxFrom p i (cs.drop i) = if p c then (i : Int) else idxFrom p (i + 1) (cs.drop (i + 1)) := by
  obtain ⟨h1, h2⟩ := List.getElem?_eq_some_iff.1 h
  rw [List.drop_eq_getElem_cons h1, h2, idxFrom]
theorem idxFrom_nn {α : Type} (p : α → Bool) : ∀ (l : List α) (i : Nat), (0 ≤ idxFrom p i l) = (l.any p = true)
  | [], i => by simp [idxFrom]
  | x :: xs, i => by
    unfold idxFrom
    split
    · rename_i h; simp [h]
    · rename_i h; rw [idxFrom_nn p xs (i + 1)]; simp [h]
theorem idx_any {α : Type} (p : α → Bool) (l : List α) : decide (0 ≤ idx p l) = l.any p := by
  rw [Bool.eq_iff_iff, decide_eq_true_eq]; exact Iff.of_eq (idxFrom_nn p l 0)
theorem c_Or (x y z : Int) : PCtr PP n_cmp_Or_int [.sl false 1 [i64 x, i64 y, i64 z]] (i64 (if x ≠ 0 then x else if y ≠ 0 then y else z)) := by
  obtain ⟨Ω, hΩ⟩ : ∃ Ω, Ω = std := ⟨_, rfl⟩
  obtain ⟨r, hr⟩ : ∃ r, r = if x ≠ 0 then x else if y ≠ 0 then y else z := ⟨_, rfl⟩
  rw [← hr]
  obtain ⟨l, hl⟩ : ∃ l, l = [x, y, z] := ⟨_, rfl⟩
  obtain ⟨xs, hxs⟩ : ∃ xs, xs = l.map i64 := ⟨_, rfl⟩
  rw [show [i64 x, i64 y, i64 z] = xs by rw [hxs, hl]; rfl]
  have hlen : xs.length = l.length := by rw [hxs, List.length_map]
  have hr : r = orF l := by rw [hr, hl]; simp only [orF]; (repeat' split) <;> simp_all
  have hl3 : l.length = 3 := by rw [hl]; rfl
  have htab := tab
  have hmo := hmo
  have hve := verEq
  refine PCtr.walk tab hΩ fn_cmp_Or_int rfl ?_
  generalize PP = P at *
  cbv
  refine loopX htab hΩ (fun i : Nat => ⟨[(3, .sc (.int .i64 0)), (6, .sl false 1 xs), (7, .sc (.int .i64 (Ω.int (Ω.len xs)))), (8, .sc (.int .i64 (Ω.int i)))], 18, []⟩) (fun i => i ≤ l.length ∧ r = orF (l.drop i)) (fun i => l.length - i) 0
    ⟨Nat.zero_le _, hr⟩ (Sbs.mk rfl rfl ⟨rfl, rfl, rfl, zeroI hΩ, trivial⟩) ?_
  rintro i ⟨hi, he⟩
  cbv
  refine br (fun h => ?_) (fun h => ?_) <;> cbv
  · replace h := ltI hΩ h
    obtain ⟨c, hcc⟩ := at_of (cs := l) (by omega : i < l.length)
    rw [orF_at hcc] at he
    refine ⟨⟨nnI hΩ⟩, _, rdI hΩ hxs hcc, ?_⟩
    cbv
    refine br (fun g => ?_) (fun g => ?_) <;> cbv
    · exact .of (congrArg i64 (by rw [he, if_pos (neI_t hΩ g)]))
    · rw [if_neg (by rw [neI_f hΩ g]; simp)] at he
      exact ⟨i + 1, ⟨by omega, he⟩, by omega, Sbs.mk rfl rfl ⟨rfl, rfl, rfl, incI hΩ (by omega), trivial⟩⟩
  · replace h := geI hΩ h
    exact .of (congrArg i64 (by rw [he, List.drop_of_length_le (by omega)]; rfl))
theorem c_compare (a b : Ver) : PCtr PP n_impl_compare [a.enc, b.enc] (i64 (cmpV a b)) := by
  obtain ⟨Ω, hΩ⟩ : ∃ Ω, Ω = std := ⟨_, rfl⟩
  obtain ⟨r, hr⟩ : ∃ r, r = cmpV a b := ⟨_, rfl⟩
  rw [← hr]
  have h1 := c_Compare
  have h2 := c_Or
  unfold cmpV at hr
  generalize sgn = F at *
  have htab := tab
  have hmo := hmo
  have hve := verEq
  refine PCtr.walk tab hΩ fn_impl_compare rfl ?_
  generalize PP = P at *
  cbv
  refine ⟨VC_tail htab hΩ hmo 15 (by kernel_rfl) ?_⟩
  cbv
  refine QCall_pure (k := 3) (h1 a.a b.a) rfl (fits _) rfl ?_
  cbv
  refine QCall_pure (k := 3) (h1 a.b b.b) rfl (fits _) rfl ?_
  cbv
  refine QCall_pure (k := 3) (h1 a.c b.c) rfl (fits _) rfl ?_
  cbv
  have h2 := h2 (F a.a b.a) (F a.b b.b) (F a.c b.c)
  rw [← hr] at h2
  refine call_pure hΩ 3 h2 rfl (fits _) rfl rfl ?_
  cbv
  exact .same
theorem c_implTermFault (t : Trm) : PCtr PP n_impl_TermFault [t.enc] (i64 (trmF t)) := by
  obtain ⟨Ω, hΩ⟩ : ∃ Ω, Ω = std := ⟨_, rfl⟩
  obtain ⟨r, hr⟩ : ∃ r, r = trmF t := ⟨_, rfl⟩
  rw [← hr]
  have h1 := c_implNameFault t.n
  have h2 := c_implVersionFault
  have h3 := c_implTop
  have h4 := c_compare
  unfold trmF at hr
  generalize nameF t.n = c1 at *
  generalize verF = F at *
  generalize cmpV = C at *
  generalize topV = tv at *
  have htab := tab
  have hmo := hmo
  have hve := verEq
  refine PCtr.walk tab hΩ fn_impl_TermFault rfl ?_
  generalize PP = P at *
  cbv
  refine call_pure hΩ 3 h1 rfl (fits _) rfl rfl ?_
  cbv
  refine br (fun g1 => ?_) (fun g1 => ?_) <;> cbv
  · exact .of (congrArg i64 (by rw [hr, if_pos (neI_t hΩ g1)]))
  rw [if_neg (by rw [neI_f hΩ g1]; simp)] at hr
  refine call_pure hΩ 3 (h2 t.l) rfl (fits _) rfl rfl ?_
  cbv
  refine br (fun g2 => ?_) (fun g2 => ?_) <;> cbv
  · exact .of (congrArg i64 (by rw [hr, if_pos (neI_t hΩ g2)]))
  rw [if_neg (by rw [neI_f hΩ g2]; simp)] at hr
  refine ⟨VC_drawn htab hΩ hmo (by kernel_rfl) ?_⟩
  cbv
  refine QCall_pure (k := 3) h3 rfl (fits _) rfl ?_
  cbv
  refine eqX_neq hve t.h tv ?_
  generalize hD : decide (t.h = tv) = D
  have hr : r = if D = false ∧ ¬F t.h = 0 then 3 else if 0 ≤ C t.l t.h then 1 else 0 := by rw [hr, ← hD]; simp
  cbv
  refine br (fun g3 => ?_) (fun g3 => ?_) <;> cbv
  · have g3 : (!D) = true := g3
    refine QCall_pure (k := 3) (h2 t.h) rfl (fits _) rfl ?_
    cbv
    refine br (fun g4 => ?_) (fun g4 => ?_) <;> cbv
    · refine .of (congrArg i64 ?_)
      subst hΩ
      rw [hr, if_pos]
      exact ⟨by simpa using g3, by simpa using g4⟩
    refine call_pure hΩ 3 (h4 t.l t.h) rfl (fits _) rfl rfl ?_
    cbv
    rw [if_neg (by subst hΩ; simp at g4; simp [g4])] at hr
    refine br (fun g5 => ?_) (fun g5 => ?_) <;> cbv
    · exact .of (congrArg i64 (by rw [hr, if_pos (by subst hΩ; exact ge_t g5)]))
    · exact .of (congrArg i64 (by rw [hr, if_neg (by subst hΩ; exact Int.not_le.2 (ge_f g5))]))
  · have g3 : (!D) = false := g3
    rw [if_neg (by simp at g3; simp [g3])] at hr
    refine call_pure hΩ 3 (h4 t.l t.h) rfl (fits _) rfl rfl ?_
    cbv
    refine br (fun g5 => ?_) (fun g5 => ?_) <;> cbv
    · exact .of (congrArg i64 (by rw [hr, if_pos (by subst hΩ; exact ge_t g5)]))
    · exact .of (congrArg i64 (by rw [hr, if_neg (by subst hΩ; exact Int.not_le.2 (ge_f g5))]))
theorem c_specTermFault (t : Trm) : PCtr PP n_spec_TermFault [t.enc] (i64 (trmF t)) := by
  obtain ⟨Ω, hΩ⟩ : ∃ Ω, Ω = std := ⟨_, rfl⟩
  obtain ⟨r, hr⟩ : ∃ r, r = trmF t := ⟨_, rfl⟩
  rw [← hr]
  have h1 := c_specNameFault t.n
  have h2 := c_specVersionFault
  have h3 := c_specTop
  have h4 := c_CompareVersions
  unfold trmF at hr
  generalize nameF t.n = c1 at *
  generalize verF = F at *
  generalize cmpV = C at *
  generalize topV = tv at *
  have htab := tab
  have hmo := hmo
  have hve := verEq
  refine PCtr.walk tab hΩ fn_spec_TermFault rfl ?_
  generalize PP = P at *
  cbv
  refine call_pure hΩ 3 h1 rfl (fits _) rfl rfl ?_
  cbv
  refine br (fun g1 => ?_) (fun g1 => ?_) <;> cbv
  · exact .of (congrArg i64 (by rw [hr, if_pos (neI_t hΩ g1)]))
  rw [if_neg (by rw [neI_f hΩ g1]; simp)] at hr
  refine call_pure hΩ 3 (h2 t.l) rfl (fits _) rfl rfl ?_
  cbv
  refine br (fun g2 => ?_) (fun g2 => ?_) <;> cbv
  · exact .of (congrArg i64 (by rw [hr, if_pos (neI_t hΩ g2)]))
  rw [if_neg (by rw [neI_f hΩ g2]; simp)] at hr
  refine ⟨VC_drawn htab hΩ hmo (by kernel_rfl) ?_⟩
  cbv
  refine QCall_pure (k := 3) h3 rfl (fits _) rfl ?_
  cbv
  refine eqX_neq hve t.h tv ?_
  generalize hD : decide (t.h = tv) = D
  have hr : r = if D = false ∧ ¬F t.h = 0 then 3 else if 0 ≤ C t.l t.h then 1 else 0 := by rw [hr, ← hD]; simp
  cbv
  refine br (fun g3 => ?_) (fun g3 => ?_) <;> cbv
  · have g3 : (!D) = true := g3
    refine QCall_pure (k := 3) (h2 t.h) rfl (fits _) rfl ?_
    cbv
    refine br (fun g4 => ?_) (fun g4 => ?_) <;> cbv
    · refine .of (congrArg i64 ?_)
      subst hΩ
      rw [hr, if_pos]
      exact ⟨by simpa using g3, by simpa using g4⟩
    refine call_pure hΩ 3 (h4 t.l t.h) rfl (fits _) rfl rfl ?_
    cbv
    rw [if_neg (by subst hΩ; simp at g4; simp [g4])] at hr
    refine br (fun g5 => ?_) (fun g5 => ?_) <;> cbv
    · exact .of (congrArg i64 (by rw [hr, if_pos (by subst hΩ; exact ge_t g5)]))
    · exact .of (congrArg i64 (by rw [hr, if_neg (by subst hΩ; exact Int.not_le.2 (ge_f g5))]))
  · have g3 : (!D) = false := g3
    rw [if_neg (by simp at g3; simp [g3])] at hr
    refine call_pure hΩ 3 (h4 t.l t.h) rfl (fits _) rfl rfl ?_
    cbv
    refine br (fun g5 => ?_) (fun g5 => ?_) <;> cbv
    · exact .of (congrArg i64 (by rw [hr, if_pos (by subst hΩ; exact ge_t g5)]))
    · exact .of (congrArg i64 (by rw [hr, if_neg (by subst hΩ; exact Int.not_le.2 (ge_f g5))]))
theorem c_l2Holds (l : List (List UInt8)) (s : List UInt8) (hl : l.length ≤ 4611686018427387904) : PCtr PP n_spec_l2Holds [.sl false 1 (l.map str), str s] (boo (l.any (· == s))) := by
  obtain ⟨Ω, hΩ⟩ : ∃ Ω, Ω = std := ⟨_, rfl⟩
  obtain ⟨r, hr⟩ : ∃ r, r = l.any (· == s) := ⟨_, rfl⟩
  rw [← hr]
  obtain ⟨xs, hxs⟩ : ∃ xs, xs = l.map str := ⟨_, rfl⟩
  have hlen : xs.length = l.length := by rw [hxs, List.length_map]
  rw [← hxs]
  have htab := tab
  have hmo := hmo
  have hve := verEq
  refine PCtr.walk tab hΩ fn_spec_l2Holds rfl ?_
  generalize PP = P at *
  cbv
  refine loopX htab hΩ (fun i : Nat => ⟨[(0, .sl false 1 xs), (1, .sc (.string (mkS s))), (5, .sc (.int .i64 (Ω.int i)))], 18, []⟩) (fun i => i ≤ l.length ∧ r = (l.drop i).any (· == s)) (fun i => l.length - i) 0
    ⟨Nat.zero_le _, hr⟩ (Sbs.mk rfl rfl ⟨rfl, rfl, zeroI hΩ, trivial⟩) ?_
  rintro i ⟨hi, he⟩
  cbv
  refine br (fun h => ?_) (fun h => ?_) <;> cbv
  · replace h := ltI hΩ h
    obtain ⟨c, hcc⟩ := at_of (cs := l) (by omega : i < l.length)
    rw [any_at _ hcc] at he
    refine ⟨⟨nnI hΩ⟩, _, rdI hΩ hxs hcc, ?_⟩
    cbv
    refine br (fun g => ?_) (fun g => ?_) <;> cbv
    · exact .of (congrArg boo (by rw [he]; subst hΩ; rw [show (c == s) = true from g]; rfl))
    · rw [show (c == s) = false by subst hΩ; exact g, Bool.false_or] at he
      exact ⟨i + 1, ⟨by omega, he⟩, by omega, Sbs.mk rfl rfl ⟨rfl, rfl, incI hΩ (by omega), trivial⟩⟩
  · replace h := geI hΩ h
    exact .of (congrArg boo (by rw [he, List.drop_of_length_le (by omega)]; rfl))
theorem c_IndexS (l : List (List UInt8)) (s : List UInt8) (hl : l.length ≤ 4611686018427387904) : PCtr PP n_slices_Index_L_string_string [.sl false 1 (l.map str), str s] (i64 (idx (fun c => s == c) l)) := by
  obtain ⟨Ω, hΩ⟩ : ∃ Ω, Ω = std := ⟨_, rfl⟩
  obtain ⟨r, hr⟩ : ∃ r, r = idx (fun c => s == c) l := ⟨_, rfl⟩
  rw [← hr]
  obtain ⟨xs, hxs⟩ : ∃ xs, xs = l.map str := ⟨_, rfl⟩
  have hlen : xs.length = l.length := by rw [hxs, List.length_map]
  rw [← hxs]
  have htab := tab
  have hmo := hmo
  have hve := verEq
  refine PCtr.walk tab hΩ fn_slices_Index_L_string_string rfl ?_
  generalize PP = P at *
  cbv
  refine loopX htab hΩ (fun i : Nat => ⟨[(0, .sl false 1 xs), (1, .sc (.string (mkS s))), (7, .sc (.int .i64 (Ω.int (Ω.len xs)))), (8, .sc (.int .i64 (Ω.int i)))], 19, []⟩) (fun i => i ≤ l.length ∧ r = idxFrom (fun c => s == c) i (l.drop i)) (fun i => l.length - i) 0
    ⟨Nat.zero_le _, hr⟩ (Sbs.mk rfl rfl ⟨rfl, rfl, rfl, zeroI hΩ, trivial⟩) ?_
  rintro i ⟨hi, he⟩
  cbv
  refine br (fun h => ?_) (fun h => ?_) <;> cbv
  · replace h := ltI hΩ h
    obtain ⟨c, hcc⟩ := at_of (cs := l) (by omega : i < l.length)
    rw [idxFrom_at _ hcc] at he
    refine ⟨⟨nnI hΩ⟩, _, rdI hΩ hxs hcc, ?_⟩
    cbv
    refine br (fun g => ?_) (fun g => ?_) <;> cbv
    · exact .of (congrArg i64 (by rw [he]; subst hΩ; rw [if_pos (show (s == c) = true from g)]; rfl))
    · rw [if_neg (by subst hΩ; rw [show (s == c) = false from g]; simp)] at he
      exact ⟨i + 1, ⟨by omega, he⟩, by omega, Sbs.mk rfl rfl ⟨rfl, rfl, rfl, incI hΩ (by omega), trivial⟩⟩
  · replace h := geI hΩ h
    exact .of (congrArg i64 (by rw [he, List.drop_of_length_le (by omega)]; rfl))
theorem c_ContainsS (l : List (List UInt8)) (s : List UInt8) (hl : l.length ≤ 4611686018427387904) : PCtr PP n_slices_Contains_L_string_string [.sl false 1 (l.map str), str s] (boo (l.any (· == s))) := by
  obtain ⟨Ω, hΩ⟩ : ∃ Ω, Ω = std := ⟨_, rfl⟩
  obtain ⟨r, hr⟩ : ∃ r, r = l.any (· == s) := ⟨_, rfl⟩
  rw [← hr]
  have hc0 := c_IndexS l s hl
  rw [show (l.any (· == s)) = l.any (fun c => s == c) by congr 1; funext c; rw [Bool.eq_iff_iff, beq_iff_eq, beq_iff_eq]; exact eq_comm, ← idx_any] at hr
  generalize idx (fun c => s == c) l = k at *
  generalize l.map str = xs at *
  have htab := tab
  have hmo := hmo
  refine PCtr.walk tab hΩ fn_slices_Contains_L_string_string rfl ?_
  generalize PP = P at *
  cbv
  repeat' (first | (refine br (fun h => ?_) (fun h => ?_) <;> cbv) | (refine ⟨VC_drawn htab hΩ hmo (by kernel_rfl) ?_⟩; cbv) | (refine QCall_pure (k := 3) (hc0) rfl (fits _) rfl ?_; cbv) | (refine call_pure hΩ 3 (hc0) rfl (fits _) rfl rfl ?_; cbv))
  all_goals (refine .of (congrArg boo ?_); subst hΩ; subst hr; rfl)
end Go.Proofs.YtomfmdfamlmfiaaGreat

/- Walks: terms of packages. Plain theorems. -/
set_option linter.unusedVariables false
set_option linter.unusedSimpArgs false
namespace Go.Proofs.YtomfmdfamlmfiaaGreat
open Go Go.Fw
set_option maxRecDepth 100000
def givesB (o : Pck) (t : Trm) : Bool := (t.n == o.n || o.p.any (· == t.n)) && hasB t t.n o.v
def strs (l : List (List UInt8)) : A := .sl true 1 (l.map str)
theorem beqSymm (a b : List UInt8) : (a == b) = (b == a) := by rw [Bool.eq_iff_iff, beq_iff_eq, beq_iff_eq]; exact eq_comm
theorem enc_raw (o : Pck) : ∃ ps ds bs, o.enc false = .agg [str o.n, i64 o.v.a, i64 o.v.b, i64 o.v.c, i64 o.s, .sl false 1 ps, .sl false 1 ds, .sl false 7 bs] ∧ ps = o.p.map str ∧ ds = o.d.map (encTs false) ∧ bs = o.b.map Trm.enc := ⟨_, _, _, rfl, rfl, rfl, rfl⟩
theorem c_has (t : Trm) (n : List UInt8) (v : Ver) : PCtr PP n_impl_Term_has [t.enc, str n, v.enc] (boo (hasB t n v)) := by
  obtain ⟨Ω, hΩ⟩ : ∃ Ω, Ω = std := ⟨_, rfl⟩
  obtain ⟨r, hr⟩ : ∃ r, r = hasB t n v := ⟨_, rfl⟩
  rw [← hr]
  have hc0 := c_compare
  unfold hasB at hr
  generalize cmpV = C at *
  have htab := tab
  have hmo := hmo
  refine PCtr.walk tab hΩ fn_impl_Term_has rfl ?_
  generalize PP = P at *
  cbv
  repeat' (first | (refine br (fun h => ?_) (fun h => ?_) <;> cbv) | (refine ⟨VC_drawn htab hΩ hmo (by kernel_rfl) ?_⟩; cbv) | (refine QCall_pure (k := 3) (hc0 _ _) rfl (fits _) rfl ?_; cbv) | (refine call_pure hΩ 3 (hc0 _ _) rfl (fits _) rfl rfl ?_; cbv))
  all_goals (refine .of (congrArg boo ?_); subst hΩ; subst hr; simp_all <;> (intros; omega))
theorem c_l1InTerm (t : Trm) (n : List UInt8) (v : Ver) : PCtr PP n_spec_l1InTerm [t.enc, str n, v.enc] (boo (hasB t n v)) := by
  obtain ⟨Ω, hΩ⟩ : ∃ Ω, Ω = std := ⟨_, rfl⟩
  obtain ⟨r, hr⟩ : ∃ r, r = hasB t n v := ⟨_, rfl⟩
  rw [← hr]
  have hc0 := c_CompareVersions
  unfold hasB at hr
  rw [show decide (cmpV t.l v ≤ 0) = decide (0 ≤ cmpV v t.l) by rw [cmpV_swap t.l v]; rw [Bool.eq_iff_iff]; simp] at hr
  generalize cmpV = C at *
  have htab := tab
  have hmo := hmo
  refine PCtr.walk tab hΩ fn_spec_l1InTerm rfl ?_
  generalize PP = P at *
  cbv
  repeat' (first | (refine br (fun h => ?_) (fun h => ?_) <;> cbv) | (refine ⟨VC_drawn htab hΩ hmo (by kernel_rfl) ?_⟩; cbv) | (refine QCall_pure (k := 3) (hc0 _ _) rfl (fits _) rfl ?_; cbv) | (refine call_pure hΩ 3 (hc0 _ _) rfl (fits _) rfl rfl ?_; cbv))
  all_goals (refine .of (congrArg boo ?_); subst hΩ; subst hr; simp_all <;> (intros; omega))
theorem c_termsFault (l : List Trm) (hl : l.length ≤ 4611686018427387904) : PCtr PP n_impl_termsFault [.sl false 7 (l.map Trm.enc)] (i64 (firstF trmF l)) := by
  obtain ⟨Ω, hΩ⟩ : ∃ Ω, Ω = std := ⟨_, rfl⟩
  obtain ⟨r, hr⟩ : ∃ r, r = firstF trmF l := ⟨_, rfl⟩
  rw [← hr]
  have hc := c_implTermFault
  obtain ⟨xs, hxs⟩ : ∃ xs, xs = l.map Trm.enc := ⟨_, rfl⟩
  have hlen : xs.length = l.length := by rw [hxs, List.length_map]
  rw [← hxs]
  generalize trmF = F at *
  have htab := tab
  have hmo := hmo
  have hve := verEq
  refine PCtr.walk tab hΩ fn_impl_termsFault rfl ?_
  generalize PP = P at *
  cbv
  refine loopX htab hΩ (fun i : Nat => ⟨[(6, .sl false 7 xs), (7, .sc (.int .i64 (Ω.int (Ω.len xs)))), (8, .sc (.int .i64 (Ω.int i)))], 18, []⟩) (fun i => i ≤ l.length ∧ r = firstF F (l.drop i)) (fun i => l.length - i) 0
    ⟨Nat.zero_le _, hr⟩ (Sbs.mk rfl rfl ⟨rfl, rfl, zeroI hΩ, trivial⟩) ?_
  rintro i ⟨hi, he⟩
  cbv
  refine br (fun h => ?_) (fun h => ?_) <;> cbv
  · replace h := ltI hΩ h
    obtain ⟨c, hcc⟩ := at_of (cs := l) (by omega : i < l.length)
    rw [firstF_at _ hcc] at he
    refine ⟨⟨nnI hΩ⟩, _, rdI hΩ hxs hcc, ?_⟩
    cbv
    refine call_pure hΩ 3 (hc c) rfl (fits _) rfl rfl ?_
    cbv
    refine br (fun g => ?_) (fun g => ?_) <;> cbv
    · exact .of (congrArg i64 (by rw [he, if_pos (neI_t hΩ g)]))
    · rw [if_neg (by rw [neI_f hΩ g]; simp)] at he
      exact ⟨i + 1, ⟨by omega, he⟩, by omega, Sbs.mkL (rows := []) rfl rfl rfl ⟨rfl, rfl, incI hΩ (by omega), trivial⟩⟩
  · replace h := geI hΩ h
    exact .of (congrArg i64 (by rw [he, List.drop_of_length_le (by omega)]; rfl))
theorem c_l2Terms (l : List Trm) (hl : l.length ≤ 4611686018427387904) : PCtr PP n_spec_l2Terms [.sl false 7 (l.map Trm.enc)] (i64 (firstF trmF l)) := by
  obtain ⟨Ω, hΩ⟩ : ∃ Ω, Ω = std := ⟨_, rfl⟩
  obtain ⟨r, hr⟩ : ∃ r, r = firstF trmF l := ⟨_, rfl⟩
  rw [← hr]
  have hc := c_specTermFault
  obtain ⟨xs, hxs⟩ : ∃ xs, xs = l.map Trm.enc := ⟨_, rfl⟩
  have hlen : xs.length = l.length := by rw [hxs, List.length_map]
  rw [← hxs]
  generalize trmF = F at *
  have htab := tab
  have hmo := hmo
  have hve := verEq
  refine PCtr.walk tab hΩ fn_spec_l2Terms rfl ?_
  generalize PP = P at *
  cbv
  refine loopX htab hΩ (fun i : Nat => ⟨[(0, .sl false 7 xs), (3, .sc (.int .i64 (Ω.int i)))], 19, []⟩) (fun i => i ≤ l.length ∧ r = firstF F (l.drop i)) (fun i => l.length - i) 0
    ⟨Nat.zero_le _, hr⟩ (Sbs.mk rfl rfl ⟨rfl, zeroI hΩ, trivial⟩) ?_
  rintro i ⟨hi, he⟩
  cbv
  refine br (fun h => ?_) (fun h => ?_) <;> cbv
  · replace h := ltI hΩ h
    obtain ⟨c, hcc⟩ := at_of (cs := l) (by omega : i < l.length)
    rw [firstF_at _ hcc] at he
    refine ⟨⟨nnI hΩ⟩, _, rdI hΩ hxs hcc, ?_⟩
    cbv
    refine call_pure hΩ 3 (hc c) rfl (fits _) rfl rfl ?_
    cbv
    refine br (fun g => ?_) (fun g => ?_) <;> cbv
    · exact .of (congrArg i64 (by rw [he, if_pos (neI_t hΩ g)]))
    · rw [if_neg (by rw [neI_f hΩ g]; simp)] at he
      exact ⟨i + 1, ⟨by omega, he⟩, by omega, Sbs.mk rfl rfl ⟨rfl, incI hΩ (by omega), trivial⟩⟩
  · replace h := geI hΩ h
    exact .of (congrArg i64 (by rw [he, List.drop_of_length_le (by omega)]; rfl))
theorem c_l2Gives (o : Pck) (t : Trm) (hl : o.p.length ≤ 4611686018427387904) : PCtr PP n_spec_l2Gives [o.enc false, t.enc] (boo (givesB o t)) := by
  obtain ⟨Ω, hΩ⟩ : ∃ Ω, Ω = std := ⟨_, rfl⟩
  obtain ⟨r, hr⟩ : ∃ r, r = givesB o t := ⟨_, rfl⟩
  rw [← hr]
  obtain ⟨ps, ds, bs, hen, hps, hds, hbs⟩ := enc_raw o
  rw [hen]
  have hc := c_l2Holds o.p t.n hl
  have hc2 := c_l1InTerm t t.n o.v
  rw [← hps] at hc
  unfold givesB at hr
  generalize (o.p.any fun x => x == t.n) = b at *
  generalize hasB t t.n o.v = b2 at *
  have htab := tab
  have hmo := hmo
  have hve := verEq
  refine PCtr.walk tab hΩ fn_spec_l2Gives rfl ?_
  generalize PP = P at *
  cbv
  repeat' (first | (refine br (fun h => ?_) (fun h => ?_) <;> cbv) | (refine call_pure hΩ 3 hc rfl (fits _) rfl rfl ?_; cbv) | (refine call_pure hΩ 3 hc2 rfl (fits _) rfl rfl ?_; cbv) | (refine QCall_pure (k := 3) hc rfl (fits _) rfl ?_; cbv) | (refine QCall_pure (k := 3) hc2 rfl (fits _) rfl ?_; cbv) | (refine ⟨VC_drawn htab hΩ hmo (by kernel_rfl) ?_⟩; cbv))
  all_goals (refine .of (congrArg boo ?_); subst hΩ; subst hr; simp_all)
theorem c_names (o : Pck) (hl : o.p.length ≤ 1048576) : PCtr PP n_impl_Pack_names [o.enc false] (strs (o.n :: o.p)) := by
  obtain ⟨Ω, hΩ⟩ : ∃ Ω, Ω = std := ⟨_, rfl⟩
  obtain ⟨r, hr⟩ : ∃ r, r = o.n :: o.p := ⟨_, rfl⟩
  rw [← hr]
  obtain ⟨ps, ds, bs, hen, hps, hds, hbs⟩ := enc_raw o
  rw [hen]
  obtain ⟨zs, hzs⟩ : ∃ zs, zs = r.map str := ⟨_, rfl⟩
  rw [show strs r = .sl true 1 zs by rw [hzs]; rfl]
  have hzs : zs = str o.n :: ps := by rw [hzs, hr, hps]; rfl
  have hpl : ps.length = o.p.length := by rw [hps, List.length_map]
  have hno : (∀ y ∈ ps, noOwn y = true) ∧ (∀ c ∈ flat ps, okCell c = true) := by
    rw [hps]
    refine ⟨fun y hy => ?_, fun y hy => ?_⟩
    · obtain ⟨c, _, rfl⟩ := List.mem_map.1 hy; rfl
    · obtain ⟨x, hx, hy⟩ := List.mem_flatMap.1 hy
      obtain ⟨c, _, rfl⟩ := List.mem_map.1 hx
      have : y = str c := by simpa [str, A.cells] using hy
      rw [this]; rfl
  have htab := tab
  have hmo := hmo
  have hve := verEq
  refine PCtr.walk tab hΩ fn_impl_Pack_names rfl ?_
  generalize PP = P at *
  cbv
  refine ⟨⟨hno.1, hno.2, ?_, ?_⟩, ⟨rfl, ?_⟩, .of ?_⟩
  · show (1 + ps.length) * 16 ≤ 140737488355328
    omega
  · show 1 + ps.length ≤ 9223372036854775807
    omega
  · subst hΩ; show 1 + ps.length ≤ (([str o.n]).take 1 ++ ps).length; simp; omega
  · rw [hzs]; subst hΩ; show A.sl true 1 ((([str o.n]).take 1 ++ ps).take (1 + ps.length)) = _; rw [List.take_of_length_le (by simp; omega)]; rfl
end Go.Proofs.YtomfmdfamlmfiaaGreat

/- Walks: function values over slices. Plain theorems. -/
set_option linter.unusedVariables false
set_option linter.unusedSimpArgs false
namespace Go.Proofs.YtomfmdfamlmfiaaGreat
open Go Go.Fw
set_option maxRecDepth 100000
theorem mapO_append (f : A → Option A) {xs ys xs' ys' : List A} (h1 : mapO f xs = some xs') (h2 : mapO f ys = some ys') : mapO f (xs ++ ys) = some (xs' ++ ys') := by
  induction xs generalizing xs' with
  | nil => simp only [mapO, Option.some.injEq] at h1; subst h1; exact h2
  | cons x xs ih =>
    simp only [mapO, List.cons_append] at h1 ⊢
    cases hx : f x with
    | none => rw [hx] at h1; simp at h1
    | some y =>
      rw [hx] at h1
      cases hxs : mapO f xs with
      | none => rw [hxs] at h1; simp at h1
      | some us =>
        rw [hxs] at h1
        simp only [Option.some.injEq] at h1
        subst h1
        rw [ih hxs]; rfl
theorem ro_cloA {Ω : Opq} (hΩ : Ω = std) {S : State} {k g : Nat} {xs caps xs' caps' : List A} (h1 : mapO (roO S k) xs = some xs') (h2 : mapO (roO S k) caps = some caps') : mapO (roO S k) (Ω.cloA g xs caps) = some (Ω.cloA g xs' caps') := by
  subst hΩ
  show mapO _ (Fw.cloA g xs caps) = some (Fw.cloA g xs' caps')
  unfold Fw.cloA
  split
  · exact mapO_append _ h1 h2
  · exact mapO_append _ h2 h1
theorem roO_clo (S : State) (k g : Nat) (xs : List A) : roO S (k + 1) (.clo g xs) = (mapO (roO S k) xs).map (A.clo g) := rfl
theorem ro_clo2 {S : State} {k g : Nat} {x x' : A} {caps caps' : List A} (h1 : roO S (k + 1) x = some x') (h2 : mapO (roO S k) caps = some caps') : mapO (roO S (k + 1)) [x, .clo g caps] = some [x', .clo g caps'] := by
  simp [mapO, roO_clo, h1, h2]
theorem ro_clo1 {S : State} {k g : Nat} {caps caps' : List A} (h2 : mapO (roO S k) caps = some caps') : mapO (roO S (k + 1)) [.clo g caps] = some [.clo g caps'] := by
  simp [mapO, roO_clo, h2]
theorem roPt {S : State} {k r n : Nat} {x : A} {ys : List A} (hr : Fw.rowAt S.rows r = some ⟨n, [x], true⟩) (h : mapO (roO S k) x.cells = some ys) : roO S (k + 1) (.pt r 0 0) = some (.rp ys) := by
  simp [roO, hr, h]
theorem mapOne {f : A → Option A} {x x' : A} (h : f x = some x') : mapO f [x] = some [x'] := by simp [mapO, h]
/-- What a function value with these captured values answers. -/
structure CloB (P : Program) {α : Type} (enc : α → A) (l : List α) (g : Nat) (caps : List A) (p : α → Bool) : Prop where
  ro : ∀ S k, mapO (roO S (k + 4)) caps = some caps
  no : caps.all noOwn = true
  kl : ∀ r, killL r caps = caps
  run : ∀ s ∈ l, PCtr P (Fw.cloN g) (Fw.cloA g [enc s] caps) (boo (p s))
theorem c_IndexFuncS (l : List (List UInt8)) (hl : l.length ≤ 4611686018427387904) (g : Nat) (caps : List A) (p : List UInt8 → Bool) (hf : CloB PP (str) l g caps p) : PCtr PP n_slices_IndexFunc_L_string_string [.sl false 1 (l.map (str)), .clo g caps] (i64 (idx p l)) := by
  obtain ⟨Ω, hΩ⟩ : ∃ Ω, Ω = std := ⟨_, rfl⟩
  obtain ⟨r, hr⟩ : ∃ r, r = idx p l := ⟨_, rfl⟩
  rw [← hr]
  obtain ⟨xs, hxs⟩ : ∃ xs, xs = l.map (str) := ⟨_, rfl⟩
  have hlen : xs.length = l.length := by rw [hxs, List.length_map]
  rw [← hxs]
  have hro := hf.ro
  have hrun : ∀ s ∈ l, PCtr PP (Ω.cloN g) (Ω.cloA g [str s] caps) (boo (p s)) := by subst hΩ; exact hf.run
  have htab := tab
  have hmo := hmo
  have hve := verEq
  refine PCtr.walk tab hΩ fn_slices_IndexFunc_L_string_string rfl ?_
  generalize PP = P at *
  cbv
  refine loopX htab hΩ (fun i : Nat => ⟨[(0, .sl false 1 xs), (1, .clo g caps), (7, .sc (.int .i64 (Ω.int (Ω.len xs)))), (8, .sc (.int .i64 (Ω.int i)))], 19, []⟩) (fun i => i ≤ l.length ∧ r = idxFrom p i (l.drop i)) (fun i => l.length - i) 0
    ⟨Nat.zero_le _, hr⟩ (Sbs.mk rfl rfl ⟨rfl, rfl, rfl, zeroI hΩ, trivial⟩) ?_
  rintro i ⟨hi, he⟩
  cbv
  refine br (fun h => ?_) (fun h => ?_) <;> cbv
  · replace h := ltI hΩ h
    obtain ⟨c, hcc⟩ := at_of (cs := l) (by omega : i < l.length)
    rw [idxFrom_at _ hcc] at he
    refine ⟨⟨nnI hΩ⟩, _, rdI hΩ hxs hcc, ?_⟩
    cbv
    have h1 := hrun c (List.mem_of_getElem? hcc)

    refine call_pure hΩ 4 h1 (ro_cloA hΩ rfl (hro _ 0)) (fits _) rfl rfl ?_
    cbv
    refine br (fun g => ?_) (fun g => ?_) <;> cbv
    · exact .of (congrArg i64 (by rw [he, if_pos g]; subst hΩ; rfl))
    · rw [if_neg (by rw [show p c = false from g]; simp)] at he
      exact ⟨i + 1, ⟨by omega, he⟩, by omega, Sbs.mk rfl rfl ⟨rfl, rfl, rfl, incI hΩ (by omega), trivial⟩⟩
  · replace h := geI hΩ h
    exact .of (congrArg i64 (by rw [he, List.drop_of_length_le (by omega)]; rfl))
theorem c_ContainsFuncS (l : List (List UInt8)) (hl : l.length ≤ 4611686018427387904) (g : Nat) (caps : List A) (p : List UInt8 → Bool) (hf : CloB PP (str) l g caps p) : PCtr PP n_slices_ContainsFunc_L_string_string [.sl false 1 (l.map (str)), .clo g caps] (boo (l.any p)) := by
  obtain ⟨Ω, hΩ⟩ : ∃ Ω, Ω = std := ⟨_, rfl⟩
  obtain ⟨r, hr⟩ : ∃ r, r = l.any p := ⟨_, rfl⟩
  rw [← hr]
  have hc := c_IndexFuncS l hl g caps p hf
  have hro := hf.ro
  rw [← idx_any] at hr
  generalize idx p l = k at *
  generalize l.map (str) = xs at *
  have htab := tab
  have hmo := hmo
  have hve := verEq
  refine PCtr.walk tab hΩ fn_slices_ContainsFunc_L_string_string rfl ?_
  generalize PP = P at *
  cbv
  refine call_pure hΩ 5 hc (ro_clo2 rfl (hro _ 0)) (fits _) rfl rfl ?_
  cbv
  refine .of (congrArg boo ?_)
  subst hΩ; subst hr; rfl
theorem c_IndexFuncT (l : List (Trm)) (hl : l.length ≤ 4611686018427387904) (g : Nat) (caps : List A) (p : Trm → Bool) (hf : CloB PP (Trm.enc) l g caps p) : PCtr PP n_slices_IndexFunc_L_impl_Term_impl_Term [.sl false 7 (l.map (Trm.enc)), .clo g caps] (i64 (idx p l)) := by
  obtain ⟨Ω, hΩ⟩ : ∃ Ω, Ω = std := ⟨_, rfl⟩
  obtain ⟨r, hr⟩ : ∃ r, r = idx p l := ⟨_, rfl⟩
  rw [← hr]
  obtain ⟨xs, hxs⟩ : ∃ xs, xs = l.map (Trm.enc) := ⟨_, rfl⟩
  have hlen : xs.length = l.length := by rw [hxs, List.length_map]
  rw [← hxs]
  have hro := hf.ro
  have hrun : ∀ s ∈ l, PCtr PP (Ω.cloN g) (Ω.cloA g [Trm.enc s] caps) (boo (p s)) := by subst hΩ; exact hf.run
  have htab := tab
  have hmo := hmo
  have hve := verEq
  refine PCtr.walk tab hΩ fn_slices_IndexFunc_L_impl_Term_impl_Term rfl ?_
  generalize PP = P at *
  cbv
  refine loopX htab hΩ (fun i : Nat => ⟨[(0, .sl false 7 xs), (1, .clo g caps), (7, .sc (.int .i64 (Ω.int (Ω.len xs)))), (8, .sc (.int .i64 (Ω.int i)))], 19, []⟩) (fun i => i ≤ l.length ∧ r = idxFrom p i (l.drop i)) (fun i => l.length - i) 0
    ⟨Nat.zero_le _, hr⟩ (Sbs.mk rfl rfl ⟨rfl, rfl, rfl, zeroI hΩ, trivial⟩) ?_
  rintro i ⟨hi, he⟩
  cbv
  refine br (fun h => ?_) (fun h => ?_) <;> cbv
  · replace h := ltI hΩ h
    obtain ⟨c, hcc⟩ := at_of (cs := l) (by omega : i < l.length)
    rw [idxFrom_at _ hcc] at he
    refine ⟨⟨nnI hΩ⟩, _, rdI hΩ hxs hcc, ?_⟩
    cbv
    have h1 := hrun c (List.mem_of_getElem? hcc)

    refine call_pure hΩ 4 h1 (ro_cloA hΩ rfl (hro _ 0)) (fits _) rfl rfl ?_
    cbv
    refine br (fun g => ?_) (fun g => ?_) <;> cbv
    · exact .of (congrArg i64 (by rw [he, if_pos g]; subst hΩ; rfl))
    · rw [if_neg (by rw [show p c = false from g]; simp)] at he
      exact ⟨i + 1, ⟨by omega, he⟩, by omega, Sbs.mk rfl rfl ⟨rfl, rfl, rfl, incI hΩ (by omega), trivial⟩⟩
  · replace h := geI hΩ h
    exact .of (congrArg i64 (by rw [he, List.drop_of_length_le (by omega)]; rfl))
theorem c_ContainsFuncT (l : List (Trm)) (hl : l.length ≤ 4611686018427387904) (g : Nat) (caps : List A) (p : Trm → Bool) (hf : CloB PP (Trm.enc) l g caps p) : PCtr PP n_slices_ContainsFunc_L_impl_Term_impl_Term [.sl false 7 (l.map (Trm.enc)), .clo g caps] (boo (l.any p)) := by
  obtain ⟨Ω, hΩ⟩ : ∃ Ω, Ω = std := ⟨_, rfl⟩
  obtain ⟨r, hr⟩ : ∃ r, r = l.any p := ⟨_, rfl⟩
  rw [← hr]
  have hc := c_IndexFuncT l hl g caps p hf
  have hro := hf.ro
  rw [← idx_any] at hr
  generalize idx p l = k at *
  generalize l.map (Trm.enc) = xs at *
  have htab := tab
  have hmo := hmo
  have hve := verEq
  refine PCtr.walk tab hΩ fn_slices_ContainsFunc_L_impl_Term_impl_Term rfl ?_
  generalize PP = P at *
  cbv
  refine call_pure hΩ 5 hc (ro_clo2 rfl (hro _ 0)) (fits _) rfl rfl ?_
  cbv
  refine .of (congrArg boo ?_)
  subst hΩ; subst hr; rfl
theorem c_IndexFuncI (l : List (Int)) (hl : l.length ≤ 4611686018427387904) (g : Nat) (caps : List A) (p : Int → Bool) (hf : CloB PP (i64) l g caps p) : PCtr PP n_slices_IndexFunc_L_int64_int64 [.sl false 1 (l.map (i64)), .clo g caps] (i64 (idx p l)) := by
  obtain ⟨Ω, hΩ⟩ : ∃ Ω, Ω = std := ⟨_, rfl⟩
  obtain ⟨r, hr⟩ : ∃ r, r = idx p l := ⟨_, rfl⟩
  rw [← hr]
  obtain ⟨xs, hxs⟩ : ∃ xs, xs = l.map (i64) := ⟨_, rfl⟩
  have hlen : xs.length = l.length := by rw [hxs, List.length_map]
  rw [← hxs]
  have hro := hf.ro
  have hrun : ∀ s ∈ l, PCtr PP (Ω.cloN g) (Ω.cloA g [i64 s] caps) (boo (p s)) := by subst hΩ; exact hf.run
  have htab := tab
  have hmo := hmo
  have hve := verEq
  refine PCtr.walk tab hΩ fn_slices_IndexFunc_L_int64_int64 rfl ?_
  generalize PP = P at *
  cbv
  refine loopX htab hΩ (fun i : Nat => ⟨[(0, .sl false 1 xs), (1, .clo g caps), (7, .sc (.int .i64 (Ω.int (Ω.len xs)))), (8, .sc (.int .i64 (Ω.int i)))], 19, []⟩) (fun i => i ≤ l.length ∧ r = idxFrom p i (l.drop i)) (fun i => l.length - i) 0
    ⟨Nat.zero_le _, hr⟩ (Sbs.mk rfl rfl ⟨rfl, rfl, rfl, zeroI hΩ, trivial⟩) ?_
  rintro i ⟨hi, he⟩
  cbv
  refine br (fun h => ?_) (fun h => ?_) <;> cbv
  · replace h := ltI hΩ h
    obtain ⟨c, hcc⟩ := at_of (cs := l) (by omega : i < l.length)
    rw [idxFrom_at _ hcc] at he
    refine ⟨⟨nnI hΩ⟩, _, rdI hΩ hxs hcc, ?_⟩
    cbv
    have h1 := hrun c (List.mem_of_getElem? hcc)

    refine call_pure hΩ 4 h1 (ro_cloA hΩ rfl (hro _ 0)) (fits _) rfl rfl ?_
    cbv
    refine br (fun g => ?_) (fun g => ?_) <;> cbv
    · exact .of (congrArg i64 (by rw [he, if_pos g]; subst hΩ; rfl))
    · rw [if_neg (by rw [show p c = false from g]; simp)] at he
      exact ⟨i + 1, ⟨by omega, he⟩, by omega, Sbs.mk rfl rfl ⟨rfl, rfl, rfl, incI hΩ (by omega), trivial⟩⟩
  · replace h := geI hΩ h
    exact .of (congrArg i64 (by rw [he, List.drop_of_length_le (by omega)]; rfl))
theorem c_ContainsFuncI (l : List (Int)) (hl : l.length ≤ 4611686018427387904) (g : Nat) (caps : List A) (p : Int → Bool) (hf : CloB PP (i64) l g caps p) : PCtr PP n_slices_ContainsFunc_L_int64_int64 [.sl false 1 (l.map (i64)), .clo g caps] (boo (l.any p)) := by
  obtain ⟨Ω, hΩ⟩ : ∃ Ω, Ω = std := ⟨_, rfl⟩
  obtain ⟨r, hr⟩ : ∃ r, r = l.any p := ⟨_, rfl⟩
  rw [← hr]
  have hc := c_IndexFuncI l hl g caps p hf
  have hro := hf.ro
  rw [← idx_any] at hr
  generalize idx p l = k at *
  generalize l.map (i64) = xs at *
  have htab := tab
  have hmo := hmo
  have hve := verEq
  refine PCtr.walk tab hΩ fn_slices_ContainsFunc_L_int64_int64 rfl ?_
  generalize PP = P at *
  cbv
  refine call_pure hΩ 5 hc (ro_clo2 rfl (hro _ 0)) (fits _) rfl rfl ?_
  cbv
  refine .of (congrArg boo ?_)
  subst hΩ; subst hr; rfl
theorem c_IndexFuncL (l : List (List Trm)) (hl : l.length ≤ 4611686018427387904) (g : Nat) (caps : List A) (p : List Trm → Bool) (hf : CloB PP (encTs false) l g caps p) : PCtr PP n_slices_IndexFunc_L_L_impl_Term_L_impl_Term [.sl false 1 (l.map (encTs false)), .clo g caps] (i64 (idx p l)) := by
  obtain ⟨Ω, hΩ⟩ : ∃ Ω, Ω = std := ⟨_, rfl⟩
  obtain ⟨r, hr⟩ : ∃ r, r = idx p l := ⟨_, rfl⟩
  rw [← hr]
  obtain ⟨xs, hxs⟩ : ∃ xs, xs = l.map (encTs false) := ⟨_, rfl⟩
  have hlen : xs.length = l.length := by rw [hxs, List.length_map]
  rw [← hxs]
  have hro := hf.ro
  have hrun : ∀ s ∈ l, PCtr PP (Ω.cloN g) (Ω.cloA g [encTs false s] caps) (boo (p s)) := by subst hΩ; exact hf.run
  have htab := tab
  have hmo := hmo
  have hve := verEq
  refine PCtr.walk tab hΩ fn_slices_IndexFunc_L_L_impl_Term_L_impl_Term rfl ?_
  generalize PP = P at *
  cbv
  refine loopX htab hΩ (fun i : Nat => ⟨[(0, .sl false 1 xs), (1, .clo g caps), (7, .sc (.int .i64 (Ω.int (Ω.len xs)))), (8, .sc (.int .i64 (Ω.int i)))], 19, []⟩) (fun i => i ≤ l.length ∧ r = idxFrom p i (l.drop i)) (fun i => l.length - i) 0
    ⟨Nat.zero_le _, hr⟩ (Sbs.mk rfl rfl ⟨rfl, rfl, rfl, zeroI hΩ, trivial⟩) ?_
  rintro i ⟨hi, he⟩
  cbv
  refine br (fun h => ?_) (fun h => ?_) <;> cbv
  · replace h := ltI hΩ h
    obtain ⟨c, hcc⟩ := at_of (cs := l) (by omega : i < l.length)
    rw [idxFrom_at _ hcc] at he
    obtain ⟨cs, hen, hcs⟩ : ∃ cs, encTs false c = .sl false 7 cs ∧ cs = c.map Trm.enc := ⟨_, rfl, rfl⟩
    refine ⟨⟨nnI hΩ⟩, _, (rdI hΩ hxs hcc).trans (congrArg some hen), ?_⟩
    cbv
    have h1 := hrun c (List.mem_of_getElem? hcc)
    rw [hen] at h1
    refine call_pure hΩ 4 h1 (ro_cloA hΩ rfl (hro _ 0)) (fits _) rfl rfl ?_
    cbv
    refine br (fun g => ?_) (fun g => ?_) <;> cbv
    · exact .of (congrArg i64 (by rw [he, if_pos g]; subst hΩ; rfl))
    · rw [if_neg (by rw [show p c = false from g]; simp)] at he
      exact ⟨i + 1, ⟨by omega, he⟩, by omega, Sbs.mk rfl rfl ⟨rfl, rfl, rfl, incI hΩ (by omega), trivial⟩⟩
  · replace h := geI hΩ h
    exact .of (congrArg i64 (by rw [he, List.drop_of_length_le (by omega)]; rfl))
theorem c_ContainsFuncL (l : List (List Trm)) (hl : l.length ≤ 4611686018427387904) (g : Nat) (caps : List A) (p : List Trm → Bool) (hf : CloB PP (encTs false) l g caps p) : PCtr PP n_slices_ContainsFunc_L_L_impl_Term_L_impl_Term [.sl false 1 (l.map (encTs false)), .clo g caps] (boo (l.any p)) := by
  obtain ⟨Ω, hΩ⟩ : ∃ Ω, Ω = std := ⟨_, rfl⟩
  obtain ⟨r, hr⟩ : ∃ r, r = l.any p := ⟨_, rfl⟩
  rw [← hr]
  have hc := c_IndexFuncL l hl g caps p hf
  have hro := hf.ro
  rw [← idx_any] at hr
  generalize idx p l = k at *
  generalize l.map (encTs false) = xs at *
  have htab := tab
  have hmo := hmo
  have hve := verEq
  refine PCtr.walk tab hΩ fn_slices_ContainsFunc_L_L_impl_Term_L_impl_Term rfl ?_
  generalize PP = P at *
  cbv
  refine call_pure hΩ 5 hc (ro_clo2 rfl (hro _ 0)) (fits _) rfl rfl ?_
  cbv
  refine .of (congrArg boo ?_)
  subst hΩ; subst hr; rfl
theorem c_IndexFuncP (l : List (Pck)) (hl : l.length ≤ 4611686018427387904) (g : Nat) (caps : List A) (p : Pck → Bool) (hf : CloB PP (Pck.enc false) l g caps p) : PCtr PP n_slices_IndexFunc_L_impl_Pack_impl_Pack [.sl false 8 (l.map (Pck.enc false)), .clo g caps] (i64 (idx p l)) := by
  obtain ⟨Ω, hΩ⟩ : ∃ Ω, Ω = std := ⟨_, rfl⟩
  obtain ⟨r, hr⟩ : ∃ r, r = idx p l := ⟨_, rfl⟩
  rw [← hr]
  obtain ⟨xs, hxs⟩ : ∃ xs, xs = l.map (Pck.enc false) := ⟨_, rfl⟩
  have hlen : xs.length = l.length := by rw [hxs, List.length_map]
  rw [← hxs]
  have hro := hf.ro
  have hrun : ∀ s ∈ l, PCtr PP (Ω.cloN g) (Ω.cloA g [Pck.enc false s] caps) (boo (p s)) := by subst hΩ; exact hf.run
  have htab := tab
  have hmo := hmo
  have hve := verEq
  refine PCtr.walk tab hΩ fn_slices_IndexFunc_L_impl_Pack_impl_Pack rfl ?_
  generalize PP = P at *
  cbv
  refine loopX htab hΩ (fun i : Nat => ⟨[(0, .sl false 8 xs), (1, .clo g caps), (7, .sc (.int .i64 (Ω.int (Ω.len xs)))), (8, .sc (.int .i64 (Ω.int i)))], 19, []⟩) (fun i => i ≤ l.length ∧ r = idxFrom p i (l.drop i)) (fun i => l.length - i) 0
    ⟨Nat.zero_le _, hr⟩ (Sbs.mk rfl rfl ⟨rfl, rfl, rfl, zeroI hΩ, trivial⟩) ?_
  rintro i ⟨hi, he⟩
  cbv
  refine br (fun h => ?_) (fun h => ?_) <;> cbv
  · replace h := ltI hΩ h
    obtain ⟨c, hcc⟩ := at_of (cs := l) (by omega : i < l.length)
    rw [idxFrom_at _ hcc] at he
    obtain ⟨ps, ds, bs, hen, hps, hds, hbs⟩ := enc_raw c
    refine ⟨⟨nnI hΩ⟩, _, (rdI hΩ hxs hcc).trans (congrArg some hen), ?_⟩
    cbv
    have h1 := hrun c (List.mem_of_getElem? hcc)
    rw [hen] at h1
    refine call_pure hΩ 4 h1 (ro_cloA hΩ rfl (hro _ 0)) (fits _) rfl rfl ?_
    cbv
    refine br (fun g => ?_) (fun g => ?_) <;> cbv
    · exact .of (congrArg i64 (by rw [he, if_pos g]; subst hΩ; rfl))
    · rw [if_neg (by rw [show p c = false from g]; simp)] at he
      exact ⟨i + 1, ⟨by omega, he⟩, by omega, Sbs.mk rfl rfl ⟨rfl, rfl, rfl, incI hΩ (by omega), trivial⟩⟩
  · replace h := geI hΩ h
    exact .of (congrArg i64 (by rw [he, List.drop_of_length_le (by omega)]; rfl))
end Go.Proofs.YtomfmdfamlmfiaaGreat

/- Walks: what a package gives. Plain theorems. -/
set_option linter.unusedVariables false
set_option linter.unusedSimpArgs false
namespace Go.Proofs.YtomfmdfamlmfiaaGreat
open Go Go.Fw
set_option maxRecDepth 100000
theorem roV {S : State} {k r len n : Nat} {ys : List A} (hr : Fw.rowAt S.rows r = some ⟨n, ys, false⟩) (hl : len = ys.length) (hf : ys.map frz = ys) : roO S (k + 1) (.vw r 0 len) = some (.sl false n ys) := by
  simp only [roO, hr]
  rw [hl, List.drop_zero, List.take_length, hf]
  rfl
theorem frzStr (l : List (List UInt8)) : (l.map str).map frz = l.map str := by
  rw [List.map_map]; exact List.map_congr_left fun c _ => rfl
theorem roFStr (l : List (List UInt8)) : roFree (strs l) = true := by
  unfold strs
  rw [roFree_sl, Bool.true_and, List.all_eq_true]
  intro x hx
  obtain ⟨c, _, rfl⟩ := List.mem_map.1 hx
  rfl
theorem names_any (o : Pck) (t : Trm) : (o.n :: o.p).any (fun s => hasB t s o.v) = givesB o t := by
  unfold givesB hasB
  rw [List.any_cons, show (t.n == t.n) = true by simp, Bool.true_and]
  generalize (decide (cmpV t.l o.v ≤ 0) && decide (cmpV o.v t.h < 0)) = X
  cases X
  · simp
  · simp only [Bool.and_true]
    congr 2
    funext s
    exact beqSymm _ _
theorem c_gives1 (o : Pck) (t : Trm) (s : List UInt8) {ps ds bs : List A} : PCtr PP n_impl_Pack_gives_1 [str s, .rp t.cells, .rp [str o.n, i64 o.v.a, i64 o.v.b, i64 o.v.c, i64 o.s, .sl false 1 ps, .sl false 1 ds, .sl false 7 bs]] (boo (hasB t s o.v)) := by
  obtain ⟨Ω, hΩ⟩ : ∃ Ω, Ω = std := ⟨_, rfl⟩
  have hc := c_has t s o.v
  generalize hasB t s o.v = r at *
  have htab := tab
  refine PCtr.walk tab hΩ fn_impl_Pack_gives_1 rfl ?_
  generalize PP = P at *
  cbv
  refine call_pure hΩ 3 hc rfl (fits _) rfl rfl ?_
  cbv
  exact .same
theorem c_gives (o : Pck) (t : Trm) (hl : o.p.length ≤ 1048576) : PCtr PP n_impl_Pack_gives [o.enc false, t.enc] (boo (givesB o t)) := by
  obtain ⟨Ω, hΩ⟩ : ∃ Ω, Ω = std := ⟨_, rfl⟩
  obtain ⟨r, hr⟩ : ∃ r, r = givesB o t := ⟨_, rfl⟩
  rw [← hr]
  obtain ⟨ps, ds, bs, hen, hps, hds, hbs⟩ := enc_raw o
  rw [hen]
  have hn := c_names o hl
  have hcf : PCtr PP n_slices_ContainsFunc_L_string_string [.sl false 1 ((o.n :: o.p).map str), .clo n_impl_Pack_gives_1 [.rp t.cells, .rp [str o.n, i64 o.v.a, i64 o.v.b, i64 o.v.c, i64 o.s, .sl false 1 ps, .sl false 1 ds, .sl false 7 bs]]] (boo r) := by
    rw [hr, ← names_any]
    exact c_ContainsFuncS _ (by simp; omega) _ _ _ ⟨fun S k => rfl, rfl, fun _ => rfl, fun s _ => c_gives1 o t s⟩
  have hrf := roFStr (o.n :: o.p)
  have hzf := frzStr (o.n :: o.p)
  rw [hen] at hn
  unfold strs at hn hrf
  generalize (o.n :: o.p).map str = zs at *
  have htab := tab
  have hmo := hmo
  have hve := verEq
  refine PCtr.walk tab hΩ fn_impl_Pack_gives rfl ?_
  generalize PP = P at *
  cbv
  refine call_pure hΩ 3 hn rfl (fits _) hrf rfl ?_
  cbv
  refine call_pure hΩ 5 hcf (ro_clo2 (roV rfl (by subst hΩ; rfl) hzf) rfl) (fits _) rfl rfl ?_
  cbv
  exact .same
theorem c_givesOne (o : Pck) (l : List Trm) (ho : o.p.length ≤ 1048576) (hl : l.length ≤ 1048576) : PCtr PP n_impl_Pack_givesOne [o.enc false, .sl false 7 (l.map Trm.enc)] (boo (l.any (givesB o))) := by
  obtain ⟨Ω, hΩ⟩ : ∃ Ω, Ω = std := ⟨_, rfl⟩
  obtain ⟨r, hr⟩ : ∃ r, r = l.any (givesB o) := ⟨_, rfl⟩
  rw [← hr]
  obtain ⟨ps, ds, bs, hen, hps, hds, hbs⟩ := enc_raw o
  rw [hen]
  have hcf : PCtr PP n_slices_ContainsFunc_L_impl_Term_impl_Term [.sl false 7 (l.map Trm.enc), .clo (1000000 + n_impl_Pack_gives) [.agg [str o.n, i64 o.v.a, i64 o.v.b, i64 o.v.c, i64 o.s, .sl false 1 ps, .sl false 1 ds, .sl false 7 bs]]] (boo r) := by
    rw [hr, ← hen]
    exact c_ContainsFuncT _ (by omega) _ _ _ ⟨fun S k => by rw [hen]; rfl, by rw [hen]; rfl, fun _ => by rw [hen]; rfl, fun t _ => c_gives o t ho⟩
  generalize l.map Trm.enc = xs at *
  have htab := tab
  have hmo := hmo
  have hve := verEq
  refine PCtr.walk tab hΩ fn_impl_Pack_givesOne rfl ?_
  generalize PP = P at *
  cbv
  refine call_pure hΩ 5 hcf (ro_clo2 rfl rfl) (fits _) rfl rfl ?_
  cbv
  exact .same
end Go.Proofs.YtomfmdfamlmfiaaGreat

/- Walks: faults of packages. Plain theorems. -/
set_option linter.unusedVariables false
set_option linter.unusedSimpArgs false
namespace Go.Proofs.YtomfmdfamlmfiaaGreat
open Go Go.Fw
set_option maxRecDepth 100000
def provFrom (n : List UInt8) (all : List (List UInt8)) : Nat → List (List UInt8) → Int
  | _, [] => 0
  | i, x :: xs => if nameF x ≠ 0 then nameF x else if (x == n || (all.take i).any (· == x)) = true then 6 else provFrom n all (i + 1) xs
theorem provFrom_at (n : List UInt8) {cs : List (List UInt8)} {i : Nat} {c : List UInt8} (h : cs[i]? = some c) : provFrom n cs i (cs.drop i) = if nameF c ≠ 0 then nameF c else if (c == n || (cs.take i).any (· == c)) = true then 6 else provFrom n cs (i + 1) (cs.drop (i + 1)) := by
  obtain ⟨h1, h2⟩ := List.getElem?_eq_some_iff.1 h
  conv => lhs; rw [List.drop_eq_getElem_cons h1, h2, provFrom]
def needF (l : List Trm) : Int := if l.length = 0 then 1 else firstF trmF l
def packF (o : Pck) : Int :=
  if nameF o.n ≠ 0 then nameF o.n else if verF o.v ≠ 0 then verF o.v else if inB o.s 1 200 = false then 3 else
  if 4 < o.p.length ∨ 4 < o.d.length ∨ 4 < o.b.length ∨ o.d.any (fun l => decide (4 < l.length)) = true then 2 else
  if provFrom o.n o.p 0 o.p ≠ 0 then provFrom o.n o.p 0 o.p else if firstF needF o.d ≠ 0 then firstF needF o.d else firstF trmF o.b
structure Pck.Small (o : Pck) : Prop where
  p : o.p.length ≤ 1048576
  d : o.d.length ≤ 1048576
  b : o.b.length ≤ 1048576
  e : ∀ l ∈ o.d, l.length ≤ 1048576
theorem c_firstCode (l : List Int) (hl : l.length ≤ 1048576) : PCtr PP n_impl_firstCode [.sl false 1 (l.map i64)] (i64 (orF l)) := by
  obtain ⟨Ω, hΩ⟩ : ∃ Ω, Ω = std := ⟨_, rfl⟩
  obtain ⟨r, hr⟩ : ∃ r, r = orF l := ⟨_, rfl⟩
  rw [← hr]
  obtain ⟨xs, hxs⟩ : ∃ xs, xs = l.map i64 := ⟨_, rfl⟩
  have hlen : xs.length = l.length := by rw [hxs, List.length_map]
  rw [← hxs]
  have htab := tab
  have hmo := hmo
  have hve := verEq
  refine PCtr.walk tab hΩ fn_impl_firstCode rfl ?_
  generalize PP = P at *
  cbv
  refine loopX htab hΩ (fun i : Nat => ⟨[(5, .sl false 1 xs), (6, .sc (.int .i64 (Ω.int (Ω.len xs)))), (7, .sc (.int .i64 (Ω.int i)))], 15, []⟩) (fun i => i ≤ l.length ∧ r = orF (l.drop i)) (fun i => l.length - i) 0
    ⟨Nat.zero_le _, hr⟩ (Sbs.mk rfl rfl ⟨rfl, rfl, zeroI hΩ, trivial⟩) ?_
  rintro i ⟨hi, he⟩
  cbv
  refine br (fun h => ?_) (fun h => ?_) <;> cbv
  · replace h := ltI hΩ h
    obtain ⟨c, hcc⟩ := at_of (cs := l) (by omega : i < l.length)
    rw [orF_at hcc] at he
    refine ⟨⟨nnI hΩ⟩, _, rdI hΩ hxs hcc, ?_⟩
    cbv
    refine br (fun g => ?_) (fun g => ?_) <;> cbv
    · exact .of (congrArg i64 (by rw [he, if_pos (neI_t hΩ g)]))
    · rw [if_neg (by rw [neI_f hΩ g]; simp)] at he
      exact ⟨i + 1, ⟨by omega, he⟩, by omega, Sbs.mk rfl rfl ⟨rfl, rfl, incI hΩ (by omega), trivial⟩⟩
  · replace h := geI hΩ h
    exact .of (congrArg i64 (by rw [he, List.drop_of_length_le (by omega)]; rfl))
theorem c_PackFault1 (l : List Trm) : PCtr PP n_impl_PackFault_1 [encTs false l] (boo (decide (4 < l.length))) := by
  obtain ⟨Ω, hΩ⟩ : ∃ Ω, Ω = std := ⟨_, rfl⟩
  obtain ⟨r, hr⟩ : ∃ r, r = decide (4 < l.length) := ⟨_, rfl⟩
  rw [← hr]
  obtain ⟨cs, hen, hcs⟩ : ∃ cs, encTs false l = .sl false 7 cs ∧ cs = l.map Trm.enc := ⟨_, rfl, rfl⟩
  rw [hen]
  rw [show l.length = cs.length by rw [hcs, List.length_map]] at hr
  have htab := tab
  have hmo := hmo
  have hve := verEq
  refine PCtr.walk tab hΩ fn_impl_PackFault_1 rfl ?_
  generalize PP = P at *
  cbv
  exact .of (congrArg boo (by rw [hr]; subst hΩ; rw [Bool.eq_iff_iff]; simp; omega))
theorem c_implPackFault (o : Pck) (ho : o.Small) : PCtr PP n_impl_PackFault [o.enc false] (i64 (packF o)) := by
  obtain ⟨Ω, hΩ⟩ : ∃ Ω, Ω = std := ⟨_, rfl⟩
  obtain ⟨r, hr⟩ : ∃ r, r = packF o := ⟨_, rfl⟩
  rw [← hr]
  obtain ⟨ps, ds, bs, hen, hps, hds, hbs⟩ := enc_raw o
  rw [hen]
  have hpl : ps.length = o.p.length := by rw [hps, List.length_map]
  have hdl : ds.length = o.d.length := by rw [hds, List.length_map]
  have hbl : bs.length = o.b.length := by rw [hbs, List.length_map]
  have hn0 := c_implNameFault o.n
  have hn : ∀ s, ∃ k, nameF s = k ∧ PCtr PP n_impl_NameFault [str s] (i64 k) := fun s => ⟨_, rfl, c_implNameFault s⟩
  have hv := c_implVersionFault o.v
  have hw := c_within o.s 1 200
  have ht := c_termsFault o.b (by have := ho.b; omega)
  have htl : ∀ l ∈ o.d, PCtr PP n_impl_termsFault [.sl false 7 (l.map Trm.enc)] (i64 (firstF trmF l)) := fun l hl => c_termsFault l (by have := ho.e l hl; omega)
  have h1 := ho.p
  have h2 := ho.d
  have h3 := ho.b
  unfold packF at hr
  rw [← hbs] at ht
  obtain ⟨cN, hcN⟩ : ∃ x, nameF o.n = x := ⟨_, rfl⟩
  obtain ⟨cV, hcV⟩ : ∃ x, verF o.v = x := ⟨_, rfl⟩
  obtain ⟨bW, hbW⟩ : ∃ x, inB o.s 1 200 = x := ⟨_, rfl⟩
  obtain ⟨cP, hcP⟩ : ∃ x, provFrom o.n o.p 0 o.p = x := ⟨_, rfl⟩
  obtain ⟨cD, hcD⟩ : ∃ x, firstF needF o.d = x := ⟨_, rfl⟩
  obtain ⟨cB, hcB⟩ : ∃ x, firstF trmF o.b = x := ⟨_, rfl⟩
  have hn1 := hn0
  clear hn0
  rw [hcN] at hr hn1
  rw [hcV] at hr hv
  rw [hbW] at hr hw
  rw [hcB] at hr ht
  rw [hcP, hcD] at hr
  have hcf := c_firstCode [cN, cV] (by simp)
  obtain ⟨fc, hfc⟩ : ∃ x, orF [cN, cV] = x := ⟨_, rfl⟩
  rw [hfc] at hcf
  have hany := c_ContainsFuncL o.d (by omega) n_impl_PackFault_1 [] (fun l => decide (4 < l.length)) ⟨fun _ _ => rfl, rfl, fun _ => rfl, fun l _ => c_PackFault1 l⟩
  rw [← hds] at hany
  generalize (o.d.any fun l => decide (4 < l.length)) = bA at *
  have hhas := fun (l : List (List UInt8)) s (hl : l.length ≤ 1048576) => c_ContainsS l s (by omega)
  have hr : r = if fc ≠ 0 then fc else if bW = false then 3 else if 4 < o.p.length ∨ 4 < o.d.length ∨ 4 < o.b.length ∨ bA = true then 2 else if cP ≠ 0 then cP else if cD ≠ 0 then cD else cB := by
    rw [hr, ← hfc]
    simp only [orF]
    by_cases e1 : cN = 0
    · by_cases e2 : cV = 0
      · simp [e1, e2]
      · simp [e1, e2]
    · simp [e1]
  have htab := tab
  have hmo := hmo
  have hve := verEq
  refine PCtr.walk tab hΩ fn_impl_PackFault rfl ?_
  generalize PP = P at *
  cbv
  refine ⟨VC_tail htab hΩ hmo 6 (by kernel_rfl) ?_⟩
  cbv
  refine QCall_pure (k := 3) hn1 rfl (fits _) rfl ?_
  cbv
  refine QCall_pure (k := 3) hv rfl (fits _) rfl ?_
  cbv
  refine call_pure hΩ 3 hcf rfl (fits _) rfl rfl ?_
  cbv
  refine br (fun g => ?_) (fun g => ?_) <;> cbv
  · exact .of (congrArg i64 (by rw [hr, if_pos (neI_t hΩ g)]))
  rw [if_neg (by rw [neI_f hΩ g]; simp)] at hr
  refine call_pure hΩ 3 hw rfl (fits _) rfl rfl ?_
  cbv
  refine br (fun g => ?_) (fun g => ?_) <;> cbv
  · exact .of (congrArg i64 (by rw [hr, if_pos (notT' hΩ g)]))
  rw [if_neg (by rw [notF' hΩ g]; simp)] at hr
  refine br (fun q1 => ?_) (fun q1 => ?_) <;> cbv
  · exact .of (congrArg i64 (by rw [hr, if_pos (.inl (by subst hΩ; have q1 : (4 : Int) < ps.length := gt_t q1; omega))]))
  refine br (fun q2 => ?_) (fun q2 => ?_) <;> cbv
  · exact .of (congrArg i64 (by rw [hr, if_pos (.inr (.inl (by subst hΩ; have q2 : (4 : Int) < ds.length := gt_t q2; omega)))]))
  refine br (fun q3 => ?_) (fun q3 => ?_) <;> cbv
  · exact .of (congrArg i64 (by rw [hr, if_pos (.inr (.inr (.inl (by subst hΩ; have q3 : (4 : Int) < bs.length := gt_t q3; omega))))]))
  have q1 : o.p.length ≤ 4 := by subst hΩ; have q1 : (ps.length : Int) ≤ 4 := gt_f q1; omega
  have q2 : o.d.length ≤ 4 := by subst hΩ; have q2 : (ds.length : Int) ≤ 4 := gt_f q2; omega
  have q3 : o.b.length ≤ 4 := by subst hΩ; have q3 : (bs.length : Int) ≤ 4 := gt_f q3; omega
  refine call_pure hΩ 3 hany rfl (fits _) rfl rfl ?_
  cbv
  refine br (fun q4 => ?_) (fun q4 => ?_) <;> cbv
  · exact .of (congrArg i64 (by rw [hr, if_pos (.inr (.inr (.inr (by subst hΩ; exact q4))))]))
  have q4 : bA = false := by subst hΩ; exact q4
  rw [if_neg (by rw [q4]; simp; omega)] at hr
  refine loopX htab hΩ (fun i : Nat => ⟨[(1, .pt 0 0 0), (49, .sl false 1 ps), (50, .sc (.int .i64 (Ω.int (Ω.len ps)))), (51, .sc (.int .i64 (Ω.int i)))], 93, [some ⟨8, [.agg [str o.n, i64 o.v.a, i64 o.v.b, i64 o.v.c, i64 o.s, .sl false 1 ps, .sl false 1 ds, .sl false 7 bs]], true⟩]⟩) (fun i => i ≤ o.p.length ∧ cP = provFrom o.n o.p i (o.p.drop i)) (fun i => o.p.length - i) 0
    ⟨Nat.zero_le _, hcP.symm⟩ (Sbs.mkL (rows := [_]) rfl rfl rfl ⟨rfl, rfl, rfl, zeroI hΩ, trivial⟩) ?_
  rintro i ⟨hi, he⟩
  cbv
  refine br (fun h => ?_) (fun h => ?_) <;> cbv
  · replace h := ltI hΩ h
    obtain ⟨c, hcc⟩ := at_of (cs := o.p) (by omega : i < o.p.length)
    rw [provFrom_at _ hcc] at he
    refine ⟨⟨nnI hΩ⟩, _, rdI hΩ hps hcc, ?_⟩
    cbv
    obtain ⟨kc, hkc, hnc⟩ := hn c
    rw [hkc] at he
    refine call_pure hΩ 3 hnc rfl (fits _) rfl rfl ?_
    cbv
    refine br (fun g => ?_) (fun g => ?_) <;> cbv
    · refine .of (congrArg i64 ?_)
      have g := neI_t hΩ g
      rw [if_pos g] at he
      rw [hr, if_pos (by rw [he]; exact g), he]
    rw [if_neg (by rw [neI_f hΩ g]; simp)] at he
    have hh : PCtr P n_slices_Contains_L_string_string [.sl false 1 (Ω.seg 0 (Ω.nat (Ω.int i)) ps), str c] (boo ((o.p.take i).any (· == c))) := by
      subst hΩ
      have := hhas (o.p.take i) c (by simp; omega)
      rw [List.map_take, ← hps] at this
      exact this
    generalize (o.p.take i).any (· == c) = bh at *
    refine br (fun g1 => ?_) (fun g1 => ?_) <;> cbv
    · refine .of (congrArg i64 ?_)
      rw [if_pos (by rw [show (c == o.n) = true by subst hΩ; exact g1]; rfl)] at he
      rw [hr, if_pos (by rw [he]; decide), he]
    have g1 : (c == o.n) = false := by subst hΩ; exact g1
    rw [g1, Bool.false_or] at he
    refine ⟨⟨trivial, nnI hΩ, Nat.zero_le _, by subst hΩ; show i ≤ ps.length; omega⟩, ?_⟩
    refine call_pure hΩ 3 hh rfl (fits _) rfl rfl ?_
    cbv
    refine br (fun g2 => ?_) (fun g2 => ?_) <;> cbv
    · refine .of (congrArg i64 ?_)
      rw [if_pos (by subst hΩ; exact g2)] at he
      rw [hr, if_pos (by rw [he]; decide), he]
    rw [if_neg (by rw [show bh = false by subst hΩ; exact g2]; simp)] at he
    exact ⟨i + 1, ⟨by omega, he⟩, by omega, Sbs.mk rfl rfl ⟨rfl, rfl, rfl, incI hΩ (by omega), trivial⟩⟩
  · replace h := geI hΩ h
    rw [List.drop_of_length_le (by omega), provFrom] at he
    rw [if_neg (by rw [he]; simp)] at hr
    clear he h hi
    refine loopX htab hΩ (fun i : Nat => ⟨[(1, .pt 0 0 0), (75, .sl false 1 ds), (76, .sc (.int .i64 (Ω.int (Ω.len ds)))), (77, .sc (.int .i64 (Ω.int i)))], 93, [some ⟨8, [.agg [str o.n, i64 o.v.a, i64 o.v.b, i64 o.v.c, i64 o.s, .sl false 1 ps, .sl false 1 ds, .sl false 7 bs]], true⟩]⟩) (fun i => i ≤ o.d.length ∧ cD = firstF needF (o.d.drop i)) (fun i => o.d.length - i) 0
      ⟨Nat.zero_le _, hcD.symm⟩ (Sbs.mk rfl rfl ⟨rfl, rfl, rfl, zeroI hΩ, trivial⟩) ?_
    rintro i ⟨hi, he⟩
    cbv
    refine br (fun h => ?_) (fun h => ?_) <;> cbv
    · replace h := ltI hΩ h
      obtain ⟨c, hcc⟩ := at_of (cs := o.d) (by omega : i < o.d.length)
      rw [firstF_at _ hcc] at he
      obtain ⟨cs, hen2, hcs⟩ : ∃ cs, encTs false c = .sl false 7 cs ∧ cs = c.map Trm.enc := ⟨_, rfl, rfl⟩
      have hcl : cs.length = c.length := by rw [hcs, List.length_map]
      refine ⟨⟨nnI hΩ⟩, _, (rdI hΩ hds hcc).trans (congrArg some hen2), ?_⟩
      cbv
      refine br (fun g => ?_) (fun g => ?_) <;> cbv
      · refine .of (congrArg i64 ?_)
        have g : c.length = 0 := by subst hΩ; have g : (cs.length : Int) = 0 := eq_t g; omega
        rw [hr, if_pos] <;> rw [he, show needF c = 1 by rw [needF, if_pos g]] <;> simp
      have g : c.length ≠ 0 := by subst hΩ; have g : (cs.length : Int) ≠ 0 := eq_f g; omega
      have hnf : needF c = firstF trmF c := by rw [needF, if_neg g]
      have htc := htl c (List.mem_of_getElem? hcc)
      rw [← hcs, ← hnf] at htc
      generalize needF c = kc at *
      refine call_pure hΩ 3 htc rfl (fits _) rfl rfl ?_
      cbv
      refine br (fun g => ?_) (fun g => ?_) <;> cbv
      · refine .of (congrArg i64 ?_)
        have g := neI_t hΩ g
        rw [if_pos g] at he
        rw [hr, if_pos (by rw [he]; exact g), he]
      · rw [if_neg (by rw [neI_f hΩ g]; simp)] at he
        exact ⟨i + 1, ⟨by omega, he⟩, by omega, Sbs.mk rfl rfl ⟨rfl, rfl, rfl, incI hΩ (by omega), trivial⟩⟩
    · replace h := geI hΩ h
      rw [List.drop_of_length_le (by omega), firstF] at he
      rw [if_neg (by rw [he]; simp)] at hr
      refine call_pure hΩ 3 ht rfl (fits _) rfl rfl ?_
      cbv
      exact .of (congrArg i64 hr.symm)
theorem c_specPackFault (o : Pck) (ho : o.Small) : PCtr PP n_spec_PackFault [o.enc false] (i64 (packF o)) := by
  obtain ⟨Ω, hΩ⟩ : ∃ Ω, Ω = std := ⟨_, rfl⟩
  obtain ⟨r, hr⟩ : ∃ r, r = packF o := ⟨_, rfl⟩
  rw [← hr]
  obtain ⟨ps, ds, bs, hen, hps, hds, hbs⟩ := enc_raw o
  rw [hen]
  have hpl : ps.length = o.p.length := by rw [hps, List.length_map]
  have hdl : ds.length = o.d.length := by rw [hds, List.length_map]
  have hbl : bs.length = o.b.length := by rw [hbs, List.length_map]
  have hn0 := c_specNameFault o.n
  have hn : ∀ s, ∃ k, nameF s = k ∧ PCtr PP n_spec_NameFault [str s] (i64 k) := fun s => ⟨_, rfl, c_specNameFault s⟩
  have hv := c_specVersionFault o.v
  have hw := c_l1In o.s 1 200
  have ht := c_l2Terms o.b (by have := ho.b; omega)
  have htl : ∀ l ∈ o.d, PCtr PP n_spec_l2Terms [.sl false 7 (l.map Trm.enc)] (i64 (firstF trmF l)) := fun l hl => c_l2Terms l (by have := ho.e l hl; omega)
  have h1 := ho.p
  have h2 := ho.d
  have h3 := ho.b
  unfold packF at hr
  rw [← hbs] at ht
  obtain ⟨cN, hcN⟩ : ∃ x, nameF o.n = x := ⟨_, rfl⟩
  obtain ⟨cV, hcV⟩ : ∃ x, verF o.v = x := ⟨_, rfl⟩
  obtain ⟨bW, hbW⟩ : ∃ x, inB o.s 1 200 = x := ⟨_, rfl⟩
  obtain ⟨cP, hcP⟩ : ∃ x, provFrom o.n o.p 0 o.p = x := ⟨_, rfl⟩
  obtain ⟨cD, hcD⟩ : ∃ x, firstF needF o.d = x := ⟨_, rfl⟩
  obtain ⟨cB, hcB⟩ : ∃ x, firstF trmF o.b = x := ⟨_, rfl⟩
  have hn1 := hn0
  clear hn0
  rw [hcN] at hr hn1
  rw [hcV] at hr hv
  rw [hbW] at hr hw
  rw [hcB] at hr ht
  rw [hcP, hcD] at hr
  obtain ⟨bA, hbA⟩ : ∃ x, (o.d.any fun l => decide (4 < l.length)) = x := ⟨_, rfl⟩
  rw [hbA] at hr
  have hhas := fun (l : List (List UInt8)) s (hl : l.length ≤ 1048576) => c_l2Holds l s (by omega)
  have htab := tab
  have hmo := hmo
  have hve := verEq
  refine PCtr.walk tab hΩ fn_spec_PackFault rfl ?_
  generalize PP = P at *
  cbv
  refine call_pure hΩ 3 hn1 rfl (fits _) rfl rfl ?_
  cbv
  refine br (fun g => ?_) (fun g => ?_) <;> cbv
  · exact .of (congrArg i64 (by rw [hr, if_pos (neI_t hΩ g)]))
  rw [if_neg (by rw [neI_f hΩ g]; simp)] at hr
  refine call_pure hΩ 3 hv rfl (fits _) rfl rfl ?_
  cbv
  refine br (fun g => ?_) (fun g => ?_) <;> cbv
  · exact .of (congrArg i64 (by rw [hr, if_pos (neI_t hΩ g)]))
  rw [if_neg (by rw [neI_f hΩ g]; simp)] at hr
  refine call_pure hΩ 3 hw rfl (fits _) rfl rfl ?_
  cbv
  refine br (fun g => ?_) (fun g => ?_) <;> cbv
  · exact .of (congrArg i64 (by rw [hr, if_pos (notT' hΩ g)]))
  rw [if_neg (by rw [notF' hΩ g]; simp)] at hr
  refine br (fun q1 => ?_) (fun q1 => ?_) <;> cbv
  · exact .of (congrArg i64 (by rw [hr, if_pos (.inl (by subst hΩ; have q1 : (4 : Int) < ps.length := gt_t q1; omega))]))
  refine br (fun q2 => ?_) (fun q2 => ?_) <;> cbv
  · exact .of (congrArg i64 (by rw [hr, if_pos (.inr (.inl (by subst hΩ; have q2 : (4 : Int) < ds.length := gt_t q2; omega)))]))
  refine br (fun q3 => ?_) (fun q3 => ?_) <;> cbv
  · exact .of (congrArg i64 (by rw [hr, if_pos (.inr (.inr (.inl (by subst hΩ; have q3 : (4 : Int) < bs.length := gt_t q3; omega))))]))
  have q1 : o.p.length ≤ 4 := by subst hΩ; have q1 : (ps.length : Int) ≤ 4 := gt_f q1; omega
  have q2 : o.d.length ≤ 4 := by subst hΩ; have q2 : (ds.length : Int) ≤ 4 := gt_f q2; omega
  have q3 : o.b.length ≤ 4 := by subst hΩ; have q3 : (bs.length : Int) ≤ 4 := gt_f q3; omega
  refine loopX htab hΩ (fun i : Nat => ⟨[(1, .pt 0 0 0), (5, .sc (.int .i64 (Ω.int i)))], 118, [some ⟨8, [.agg [str o.n, i64 o.v.a, i64 o.v.b, i64 o.v.c, i64 o.s, .sl false 1 ps, .sl false 1 ds, .sl false 7 bs]], true⟩]⟩) (fun i => i ≤ o.d.length ∧ bA = (o.d.drop i).any (fun l => decide (4 < l.length))) (fun i => o.d.length - i) 0
    ⟨Nat.zero_le _, hbA.symm⟩ (Sbs.mk rfl rfl ⟨rfl, zeroI hΩ, trivial⟩) ?_
  rintro i ⟨hi, he⟩
  cbv
  refine br (fun h => ?_) (fun h => ?_) <;> cbv
  · replace h := ltI hΩ h
    obtain ⟨c, hcc⟩ := at_of (cs := o.d) (by omega : i < o.d.length)
    rw [any_at _ hcc] at he
    obtain ⟨cs, hen2, hcs⟩ : ∃ cs, encTs false c = .sl false 7 cs ∧ cs = c.map Trm.enc := ⟨_, rfl, rfl⟩
    have hcl : cs.length = c.length := by rw [hcs, List.length_map]
    refine ⟨⟨nnI hΩ⟩, _, (rdI hΩ hds hcc).trans (congrArg some hen2), ?_⟩
    cbv
    refine br (fun g => ?_) (fun g => ?_) <;> cbv
    · refine .of (congrArg i64 ?_)
      have g : 4 < c.length := by subst hΩ; have g : (4 : Int) < cs.length := gt_t g; omega
      rw [decide_eq_true g, Bool.true_or] at he
      rw [hr, if_pos (.inr (.inr (.inr he)))]
    have g : ¬ 4 < c.length := by subst hΩ; have g : (cs.length : Int) ≤ 4 := gt_f g; omega
    rw [decide_eq_false g, Bool.false_or] at he
    exact ⟨i + 1, ⟨by omega, he⟩, by omega, Sbs.mk rfl rfl ⟨rfl, incI hΩ (by omega), trivial⟩⟩
  · replace h := geI hΩ h
    rw [List.drop_of_length_le (by omega), List.any_nil] at he
    rw [if_neg (by rw [he]; simp; omega)] at hr
    clear he h hi
    refine loopX htab hΩ (fun i : Nat => ⟨[(1, .pt 0 0 0), (6, .sc (.int .i64 (Ω.int i)))], 118, [some ⟨8, [.agg [str o.n, i64 o.v.a, i64 o.v.b, i64 o.v.c, i64 o.s, .sl false 1 ps, .sl false 1 ds, .sl false 7 bs]], true⟩]⟩) (fun i => i ≤ o.p.length ∧ cP = provFrom o.n o.p i (o.p.drop i)) (fun i => o.p.length - i) 0
      ⟨Nat.zero_le _, hcP.symm⟩ (Sbs.mk rfl rfl ⟨rfl, zeroI hΩ, trivial⟩) ?_
    rintro i ⟨hi, he⟩
    cbv
    refine br (fun h => ?_) (fun h => ?_) <;> cbv
    · replace h := ltI hΩ h
      obtain ⟨c, hcc⟩ := at_of (cs := o.p) (by omega : i < o.p.length)
      rw [provFrom_at _ hcc] at he
      refine ⟨⟨nnI hΩ⟩, _, rdI hΩ hps hcc, ?_⟩
      cbv
      obtain ⟨kc, hkc, hnc⟩ := hn c
      rw [hkc] at he
      refine call_pure hΩ 3 hnc rfl (fits _) rfl rfl ?_
      cbv
      refine br (fun g => ?_) (fun g => ?_) <;> cbv
      · refine .of (congrArg i64 ?_)
        have g := neI_t hΩ g
        rw [if_pos g] at he
        rw [hr, if_pos (by rw [he]; exact g), he]
      rw [if_neg (by rw [neI_f hΩ g]; simp)] at he
      have hh : PCtr P n_spec_l2Holds [.sl false 1 (Ω.seg 0 (Ω.nat (Ω.int i)) ps), str c] (boo ((o.p.take i).any (· == c))) := by
        subst hΩ
        have := hhas (o.p.take i) c (by simp; omega)
        rw [List.map_take, ← hps] at this
        exact this
      generalize (o.p.take i).any (· == c) = bh at *
      refine ⟨VC_drawn htab hΩ hmo (by kernel_rfl) ?_⟩
      cbv
      refine ⟨⟨nnI hΩ⟩, _, rdI hΩ hps hcc, ?_⟩
      cbv
      refine br (fun g1 => ?_) (fun g1 => ?_) <;> cbv
      · refine .of (congrArg i64 ?_)
        rw [if_pos (by rw [show (c == o.n) = true by subst hΩ; exact g1]; rfl)] at he
        rw [hr, if_pos (by rw [he]; decide), he]
      have g1 : (c == o.n) = false := by subst hΩ; exact g1
      rw [g1, Bool.false_or] at he
      refine ⟨⟨trivial, nnI hΩ, Nat.zero_le _, by subst hΩ; show i ≤ ps.length; omega⟩, ?_⟩
      refine ⟨⟨nnI hΩ⟩, _, rdI hΩ hps hcc, ?_⟩
      cbv
      refine QCall_pure (k := 3) hh rfl (fits _) rfl ?_
      cbv
      refine br (fun g2 => ?_) (fun g2 => ?_) <;> cbv
      · refine .of (congrArg i64 ?_)
        rw [if_pos (by subst hΩ; exact g2)] at he
        rw [hr, if_pos (by rw [he]; decide), he]
      rw [if_neg (by rw [show bh = false by subst hΩ; exact g2]; simp)] at he
      exact ⟨i + 1, ⟨by omega, he⟩, by omega, Sbs.mk rfl rfl ⟨rfl, incI hΩ (by omega), trivial⟩⟩
    · replace h := geI hΩ h
      rw [List.drop_of_length_le (by omega), provFrom] at he
      rw [if_neg (by rw [he]; simp)] at hr
      clear he h hi
      refine loopX htab hΩ (fun i : Nat => ⟨[(1, .pt 0 0 0), (8, .sc (.int .i64 (Ω.int i)))], 118, [some ⟨8, [.agg [str o.n, i64 o.v.a, i64 o.v.b, i64 o.v.c, i64 o.s, .sl false 1 ps, .sl false 1 ds, .sl false 7 bs]], true⟩]⟩) (fun i => i ≤ o.d.length ∧ cD = firstF needF (o.d.drop i)) (fun i => o.d.length - i) 0
        ⟨Nat.zero_le _, hcD.symm⟩ (Sbs.mk rfl rfl ⟨rfl, zeroI hΩ, trivial⟩) ?_
      rintro i ⟨hi, he⟩
      cbv
      refine br (fun h => ?_) (fun h => ?_) <;> cbv
      · replace h := ltI hΩ h
        obtain ⟨c, hcc⟩ := at_of (cs := o.d) (by omega : i < o.d.length)
        rw [firstF_at _ hcc] at he
        obtain ⟨cs, hen2, hcs⟩ : ∃ cs, encTs false c = .sl false 7 cs ∧ cs = c.map Trm.enc := ⟨_, rfl, rfl⟩
        have hcl : cs.length = c.length := by rw [hcs, List.length_map]
        refine ⟨⟨nnI hΩ⟩, _, (rdI hΩ hds hcc).trans (congrArg some hen2), ?_⟩
        cbv
        refine br (fun g => ?_) (fun g => ?_) <;> cbv
        · refine .of (congrArg i64 ?_)
          have g : c.length = 0 := by subst hΩ; have g : (cs.length : Int) = 0 := eq_t g; omega
          rw [hr, if_pos] <;> rw [he, show needF c = 1 by rw [needF, if_pos g]] <;> simp
        have g : c.length ≠ 0 := by subst hΩ; have g : (cs.length : Int) ≠ 0 := eq_f g; omega
        have hnf : needF c = firstF trmF c := by rw [needF, if_neg g]
        have htc := htl c (List.mem_of_getElem? hcc)
        rw [← hcs, ← hnf] at htc
        generalize needF c = kc at *
        refine ⟨⟨nnI hΩ⟩, _, (rdI hΩ hds hcc).trans (congrArg some hen2), ?_⟩
        cbv
        refine call_pure hΩ 3 htc rfl (fits _) rfl rfl ?_
        cbv
        refine br (fun g => ?_) (fun g => ?_) <;> cbv
        · refine .of (congrArg i64 ?_)
          have g := neI_t hΩ g
          rw [if_pos g] at he
          rw [hr, if_pos (by rw [he]; exact g), he]
        · rw [if_neg (by rw [neI_f hΩ g]; simp)] at he
          exact ⟨i + 1, ⟨by omega, he⟩, by omega, Sbs.mk rfl rfl ⟨rfl, incI hΩ (by omega), trivial⟩⟩
      · replace h := geI hΩ h
        rw [List.drop_of_length_le (by omega), firstF] at he
        rw [if_neg (by rw [he]; simp)] at hr
        refine call_pure hΩ 3 ht rfl (fits _) rfl rfl ?_
        cbv
        exact .of (congrArg i64 hr.symm)
end Go.Proofs.YtomfmdfamlmfiaaGreat

/- Walks: faults of catalogs and sets. Plain theorems. -/
set_option linter.unusedVariables false
set_option linter.unusedSimpArgs false
namespace Go.Proofs.YtomfmdfamlmfiaaGreat
open Go Go.Fw
set_option maxRecDepth 100000
def isP (n : List UInt8) (v : Ver) (p : Pck) : Bool := p.n == n && decide (p.v = v)
def findF (c : List Pck) (n : List UInt8) (v : Ver) : Int := idx (isP n v) c
def catFrom (all : List Pck) : Nat → List Pck → Int
  | _, [] => 0
  | i, x :: xs => if packF x ≠ 0 then packF x else if 0 ≤ findF (all.take i) x.n x.v then 6 else catFrom all (i + 1) xs
theorem catFrom_at {cs : List Pck} {i : Nat} {c : Pck} (h : cs[i]? = some c) : catFrom cs i (cs.drop i) = if packF c ≠ 0 then packF c else if 0 ≤ findF (cs.take i) c.n c.v then 6 else catFrom cs (i + 1) (cs.drop (i + 1)) := by
  obtain ⟨h1, h2⟩ := List.getElem?_eq_some_iff.1 h
  conv => lhs; rw [List.drop_eq_getElem_cons h1, h2, catFrom]
def catF (c : List Pck) : Int := if 24 < c.length then 2 else catFrom c 0 c
def riseAll (s : List Int) : Nat → List Int → Bool
  | _, [] => true
  | i, x :: xs => (i == 0 || decide (s.getD (i - 1) 0 < x)) && riseAll s (i + 1) xs
def setOk (m : Int) (s : List Int) : Nat → List Int → Bool
  | _, [] => true
  | i, x :: xs => (inB x 0 m && (i == 0 || decide (s.getD (i - 1) 0 < x))) && setOk m s (i + 1) xs
theorem setOk_eq (m : Int) (s : List Int) : ∀ (l : List Int) (i : Nat), setOk m s i l = (riseAll s i l && l.all fun x => inB x 0 m)
  | [], i => rfl
  | x :: xs, i => by
    rw [setOk, riseAll, List.all_cons, setOk_eq m s xs (i + 1)]
    generalize inB x 0 m = a
    generalize (i == 0 || decide (s.getD (i - 1) 0 < x)) = b
    generalize riseAll s (i + 1) xs = c
    generalize (xs.all fun x => inB x 0 m) = d
    revert a b c d
    decide
theorem setOk_at (m : Int) {s : List Int} {i : Nat} {c : Int} (h : s[i]? = some c) : setOk m s i (s.drop i) = ((inB c 0 m && (i == 0 || decide (s.getD (i - 1) 0 < c))) && setOk m s (i + 1) (s.drop (i + 1))) := by
  obtain ⟨h1, h2⟩ := List.getElem?_eq_some_iff.1 h
  conv => lhs; rw [List.drop_eq_getElem_cons h1, h2, setOk]
theorem riseAll_at {s : List Int} {i : Nat} {c : Int} (h : s[i]? = some c) : riseAll s i (s.drop i) = ((i == 0 || decide (s.getD (i - 1) 0 < c)) && riseAll s (i + 1) (s.drop (i + 1))) := by
  obtain ⟨h1, h2⟩ := List.getElem?_eq_some_iff.1 h
  conv => lhs; rw [List.drop_eq_getElem_cons h1, h2, riseAll]
theorem rise0 (s : List Int) : riseAll s 0 s = riseAll s 1 (s.drop 1) := by
  cases s with
  | nil => rfl
  | cons x xs => simp [riseAll]
theorem subI {Ω : Opq} (hΩ : Ω = std) {i : Nat} (h0 : 0 < i) (h : i ≤ 4611686018427387904) : 0 ≤ Ω.ar .sub .i64 (Ω.int i) 1 ∧ (Ω.ar .sub .i64 (Ω.int i) 1).toNat = i - 1 := by
  subst hΩ
  show 0 ≤ IntKind.i64.wrap ((i : Int) - 1) ∧ (IntKind.i64.wrap ((i : Int) - 1)).toNat = i - 1
  rw [wrap64 (by omega) (by omega)]
  omega
def setF (c : List Pck) (s : List Int) : Int := if catF c ≠ 0 then catF c else if setOk ((c.length : Int) - 1) s 0 s then 0 else 1
def encP (c : List Pck) : A := .sl false 8 (c.map (Pck.enc false))
theorem c_find1 (o : Pck) (n : List UInt8) (v : Ver) : PCtr PP n_impl_find_1 [o.enc false, .rp [str n], .rp v.cells] (boo (isP n v o)) := by
  obtain ⟨Ω, hΩ⟩ : ∃ Ω, Ω = std := ⟨_, rfl⟩
  obtain ⟨r, hr⟩ : ∃ r, r = isP n v o := ⟨_, rfl⟩
  rw [← hr]
  obtain ⟨ps, ds, bs, hen, hps, hds, hbs⟩ := enc_raw o
  rw [hen]
  unfold isP at hr
  obtain ⟨D, hD⟩ : ∃ x, decide (o.v = v) = x := ⟨_, rfl⟩
  rw [hD] at hr
  have htab := tab
  have hmo := hmo
  have hve := verEq
  refine PCtr.walk tab hΩ fn_impl_find_1 rfl ?_
  generalize PP = P at *
  cbv
  refine br (fun g => ?_) (fun g => ?_) <;> cbv
  · refine eqX_eql hve o.v v ?_
    rw [hD]
    cbv
    exact .of (congrArg boo (by rw [hr, show (o.n == n) = true by subst hΩ; exact g, Bool.true_and]; subst hΩ; rfl))
  · exact .of (congrArg boo (by rw [hr, show (o.n == n) = false by subst hΩ; exact g, Bool.false_and]))
theorem c_find (l : List Pck) (n : List UInt8) (v : Ver) (hl : l.length ≤ 1048576) : PCtr PP n_impl_find [encP l, str n, v.enc] (i64 (findF l n v)) := by
  obtain ⟨Ω, hΩ⟩ : ∃ Ω, Ω = std := ⟨_, rfl⟩
  obtain ⟨r, hr⟩ : ∃ r, r = findF l n v := ⟨_, rfl⟩
  rw [← hr]
  have hc := c_IndexFuncP l (by omega) n_impl_find_1 [.rp [str n], .rp v.cells] (isP n v) ⟨fun _ _ => rfl, rfl, fun _ => rfl, fun o _ => c_find1 o n v⟩
  unfold encP
  rw [show idx (isP n v) l = r from hr.symm] at hc
  generalize l.map (Pck.enc false) = xs at *
  have htab := tab
  have hmo := hmo
  have hve := verEq
  refine PCtr.walk tab hΩ fn_impl_find rfl ?_
  generalize PP = P at *
  cbv
  refine call_pure hΩ 5 hc (ro_clo2 rfl rfl) (fits _) rfl rfl ?_
  cbv
  exact .same
theorem c_l2Find (l : List Pck) (n : List UInt8) (v : Ver) (hl : l.length ≤ 1048576) : PCtr PP n_spec_l2Find [encP l, str n, v.enc] (i64 (findF l n v)) := by
  obtain ⟨Ω, hΩ⟩ : ∃ Ω, Ω = std := ⟨_, rfl⟩
  obtain ⟨r, hr⟩ : ∃ r, r = findF l n v := ⟨_, rfl⟩
  rw [← hr]
  obtain ⟨xs, hxs⟩ : ∃ xs, xs = l.map (Pck.enc false) := ⟨_, rfl⟩
  have hlen : xs.length = l.length := by rw [hxs, List.length_map]
  unfold encP
  rw [← hxs]
  have hcv := c_CompareVersions
  have htab := tab
  have hmo := hmo
  have hve := verEq
  refine PCtr.walk tab hΩ fn_spec_l2Find rfl ?_
  generalize PP = P at *
  cbv
  refine loopX htab hΩ (fun i : Nat => ⟨[(0, .sl false 8 xs), (1, .sc (.string (mkS n))), (5, .pt 0 0 0), (7, .sc (.int .i64 (Ω.int i)))], 32, [some ⟨3, [v.enc], true⟩]⟩) (fun i => i ≤ l.length ∧ r = idxFrom (isP n v) i (l.drop i)) (fun i => l.length - i) 0
    ⟨Nat.zero_le _, hr⟩ (Sbs.mk rfl rfl ⟨rfl, rfl, rfl, zeroI hΩ, trivial⟩) ?_
  rintro i ⟨hi, he⟩
  cbv
  refine br (fun h => ?_) (fun h => ?_) <;> cbv
  · replace h := ltI hΩ h
    obtain ⟨c, hcc⟩ := at_of (cs := l) (by omega : i < l.length)
    rw [idxFrom_at _ hcc] at he
    refine ⟨VC_drawn htab hΩ hmo (by kernel_rfl) ?_⟩
    cbv
    obtain ⟨ps, ds, bs, hen, hps, hds, hbs⟩ := enc_raw c
    refine ⟨⟨nnI hΩ⟩, _, (rdI hΩ hxs hcc).trans (congrArg some hen), ?_⟩
    cbv
    refine br (fun g => ?_) (fun g => ?_) <;> cbv
    · have g : (c.n == n) = true := by subst hΩ; exact g
      refine ⟨⟨nnI hΩ⟩, _, (rdI hΩ hxs hcc).trans (congrArg some hen), ?_⟩
      cbv
      have hcv := hcv c.v v
      have hp : isP n v c = decide (cmpV c.v v = 0) := by rw [isP, g, Bool.true_and]; congr 1; rw [cmpV_zero]
      generalize cmpV c.v v = k at *
      rw [hp] at he
      refine QCall_pure (k := 3) hcv rfl (fits _) rfl ?_
      cbv
      refine br (fun g2 => ?_) (fun g2 => ?_) <;> cbv
      · exact .of (congrArg i64 (by rw [he, if_pos (by subst hΩ; have := eq_t g2; simp [this])]; subst hΩ; rfl))
      · rw [if_neg (by subst hΩ; have := eq_f g2; simp [this])] at he
        exact ⟨i + 1, ⟨by omega, he⟩, by omega, Sbs.mk rfl rfl ⟨rfl, rfl, rfl, incI hΩ (by omega), trivial⟩⟩
    · have g : (c.n == n) = false := by subst hΩ; exact g
      rw [if_neg (by rw [isP, g]; simp)] at he
      exact ⟨i + 1, ⟨by omega, he⟩, by omega, Sbs.mk rfl rfl ⟨rfl, rfl, rfl, incI hΩ (by omega), trivial⟩⟩
  · replace h := geI hΩ h
    exact .of (congrArg i64 (by rw [he, List.drop_of_length_le (by omega)]; rfl))
theorem c_implCatalogFault (l : List Pck) (hl : l.length ≤ 1048576) (hs : ∀ o ∈ l, o.Small) : PCtr PP n_impl_CatalogFault [encP l] (i64 (catF l)) := by
  obtain ⟨Ω, hΩ⟩ : ∃ Ω, Ω = std := ⟨_, rfl⟩
  obtain ⟨r, hr⟩ : ∃ r, r = catF l := ⟨_, rfl⟩
  rw [← hr]
  have hpk : ∀ o ∈ l, PCtr PP n_impl_PackFault [o.enc false] (i64 (packF o)) := fun o ho => c_implPackFault o (hs o ho)
  have hfi := fun (i : Nat) n v => c_find (l.take i) n v (by simp; omega)
  unfold encP at hfi
  obtain ⟨xs, hxs⟩ : ∃ xs, xs = l.map (Pck.enc false) := ⟨_, rfl⟩
  have hlen : xs.length = l.length := by rw [hxs, List.length_map]
  unfold encP
  rw [← hxs]
  rw [show (∀ (i : Nat) n v, PCtr PP n_impl_find [.sl false 8 ((l.take i).map (Pck.enc false)), str n, Ver.enc v] (i64 (findF (l.take i) n v))) = (∀ (i : Nat) n v, PCtr PP n_impl_find [.sl false 8 (xs.take i), str n, Ver.enc v] (i64 (findF (l.take i) n v))) by simp only [List.map_take, ← hxs]] at hfi
  unfold catF at hr
  have htab := tab
  have hmo := hmo
  have hve := verEq
  refine PCtr.walk tab hΩ fn_impl_CatalogFault rfl ?_
  generalize PP = P at *
  cbv
  refine br (fun g => ?_) (fun g => ?_) <;> cbv
  · exact .of (congrArg i64 (by rw [hr, if_pos (by subst hΩ; have g : (24 : Int) < xs.length := gt_t g; omega)]))
  rw [if_neg (by subst hΩ; have g : (xs.length : Int) ≤ 24 := gt_f g; omega)] at hr
  refine loopX htab hΩ (fun i : Nat => ⟨[(0, .sl false 8 xs), (9, .sl false 8 xs), (10, .sc (.int .i64 (Ω.int (Ω.len xs)))), (11, .sc (.int .i64 (Ω.int i)))], 31, []⟩) (fun i => i ≤ l.length ∧ r = catFrom l i (l.drop i)) (fun i => l.length - i) 0
    ⟨Nat.zero_le _, hr⟩ (Sbs.mk rfl rfl ⟨rfl, rfl, rfl, zeroI hΩ, trivial⟩) ?_
  rintro i ⟨hi, he⟩
  cbv
  refine br (fun h => ?_) (fun h => ?_) <;> cbv
  · replace h := ltI hΩ h
    obtain ⟨c, hcc⟩ := at_of (cs := l) (by omega : i < l.length)
    rw [catFrom_at hcc] at he
    obtain ⟨ps, ds, bs, hen, hps, hds, hbs⟩ := enc_raw c
    refine ⟨⟨nnI hΩ⟩, _, (rdI hΩ hxs hcc).trans (congrArg some hen), ?_⟩
    cbv
    have hp := hpk c (List.mem_of_getElem? hcc)
    rw [hen] at hp
    generalize packF c = kc at *
    refine call_pure hΩ 3 hp rfl (fits _) rfl rfl ?_
    cbv
    refine br (fun g => ?_) (fun g => ?_) <;> cbv
    · exact .of (congrArg i64 (by rw [he, if_pos (neI_t hΩ g)]))
    rw [if_neg (by rw [neI_f hΩ g]; simp)] at he
    refine ⟨VC_drawn htab hΩ hmo (by kernel_rfl) ?_⟩
    cbv
    refine ⟨⟨trivial, nnI hΩ, Nat.zero_le _, by subst hΩ; show i ≤ xs.length; omega⟩, ?_⟩
    have hf : PCtr P n_impl_find [.sl false 8 (Ω.seg 0 (Ω.nat (Ω.int i)) xs), str c.n, c.v.enc] (i64 (findF (l.take i) c.n c.v)) := by subst hΩ; exact hfi i c.n c.v
    generalize findF (l.take i) c.n c.v = kf at *
    refine QCall_pure (k := 3) hf rfl (fits _) rfl ?_
    cbv
    refine br (fun g2 => ?_) (fun g2 => ?_) <;> cbv
    · exact .of (congrArg i64 (by rw [he, if_pos (geI_t hΩ g2)]))
    · rw [if_neg (Int.not_le.2 (geI_f hΩ g2))] at he
      exact ⟨i + 1, ⟨by omega, he⟩, by omega, Sbs.mkL (rows := []) rfl rfl rfl ⟨rfl, rfl, rfl, incI hΩ (by omega), trivial⟩⟩
  · replace h := geI hΩ h
    exact .of (congrArg i64 (by rw [he, List.drop_of_length_le (by omega)]; rfl))
theorem c_specCatalogFault (l : List Pck) (hl : l.length ≤ 1048576) (hs : ∀ o ∈ l, o.Small) : PCtr PP n_spec_CatalogFault [encP l] (i64 (catF l)) := by
  obtain ⟨Ω, hΩ⟩ : ∃ Ω, Ω = std := ⟨_, rfl⟩
  obtain ⟨r, hr⟩ : ∃ r, r = catF l := ⟨_, rfl⟩
  rw [← hr]
  have hpk : ∀ o ∈ l, PCtr PP n_spec_PackFault [o.enc false] (i64 (packF o)) := fun o ho => c_specPackFault o (hs o ho)
  have hfi := fun (i : Nat) n v => c_l2Find (l.take i) n v (by simp; omega)
  unfold encP at hfi
  obtain ⟨xs, hxs⟩ : ∃ xs, xs = l.map (Pck.enc false) := ⟨_, rfl⟩
  have hlen : xs.length = l.length := by rw [hxs, List.length_map]
  unfold encP
  rw [← hxs]
  rw [show (∀ (i : Nat) n v, PCtr PP n_spec_l2Find [.sl false 8 ((l.take i).map (Pck.enc false)), str n, Ver.enc v] (i64 (findF (l.take i) n v))) = (∀ (i : Nat) n v, PCtr PP n_spec_l2Find [.sl false 8 (xs.take i), str n, Ver.enc v] (i64 (findF (l.take i) n v))) by simp only [List.map_take, ← hxs]] at hfi
  unfold catF at hr
  have htab := tab
  have hmo := hmo
  have hve := verEq
  refine PCtr.walk tab hΩ fn_spec_CatalogFault rfl ?_
  generalize PP = P at *
  cbv
  refine br (fun g => ?_) (fun g => ?_) <;> cbv
  · exact .of (congrArg i64 (by rw [hr, if_pos (by subst hΩ; have g : (24 : Int) < xs.length := gt_t g; omega)]))
  rw [if_neg (by subst hΩ; have g : (xs.length : Int) ≤ 24 := gt_f g; omega)] at hr
  refine loopX htab hΩ (fun i : Nat => ⟨[(0, .sl false 8 xs), (3, .sc (.int .i64 (Ω.int i)))], 37, []⟩) (fun i => i ≤ l.length ∧ r = catFrom l i (l.drop i)) (fun i => l.length - i) 0
    ⟨Nat.zero_le _, hr⟩ (Sbs.mk rfl rfl ⟨rfl, zeroI hΩ, trivial⟩) ?_
  rintro i ⟨hi, he⟩
  cbv
  refine br (fun h => ?_) (fun h => ?_) <;> cbv
  · replace h := ltI hΩ h
    obtain ⟨c, hcc⟩ := at_of (cs := l) (by omega : i < l.length)
    rw [catFrom_at hcc] at he
    obtain ⟨ps, ds, bs, hen, hps, hds, hbs⟩ := enc_raw c
    refine ⟨⟨nnI hΩ⟩, _, (rdI hΩ hxs hcc).trans (congrArg some hen), ?_⟩
    cbv
    have hp := hpk c (List.mem_of_getElem? hcc)
    rw [hen] at hp
    generalize packF c = kc at *
    refine call_pure hΩ 3 hp rfl (fits _) rfl rfl ?_
    cbv
    refine br (fun g => ?_) (fun g => ?_) <;> cbv
    · exact .of (congrArg i64 (by rw [he, if_pos (neI_t hΩ g)]))
    rw [if_neg (by rw [neI_f hΩ g]; simp)] at he
    refine ⟨VC_drawn htab hΩ hmo (by kernel_rfl) ?_⟩
    cbv
    refine ⟨⟨trivial, nnI hΩ, Nat.zero_le _, by subst hΩ; show i ≤ xs.length; omega⟩, ?_⟩
    have hf : PCtr P n_spec_l2Find [.sl false 8 (Ω.seg 0 (Ω.nat (Ω.int i)) xs), str c.n, c.v.enc] (i64 (findF (l.take i) c.n c.v)) := by subst hΩ; exact hfi i c.n c.v
    generalize findF (l.take i) c.n c.v = kf at *
    refine ⟨⟨nnI hΩ⟩, _, (rdI hΩ hxs hcc).trans (congrArg some hen), ?_⟩
    cbv
    refine ⟨⟨nnI hΩ⟩, _, (rdI hΩ hxs hcc).trans (congrArg some hen), ?_⟩
    cbv
    refine QCall_pure (k := 3) hf rfl (fits _) rfl ?_
    cbv
    refine br (fun g2 => ?_) (fun g2 => ?_) <;> cbv
    · exact .of (congrArg i64 (by rw [he, if_pos (geI_t hΩ g2)]))
    · rw [if_neg (Int.not_le.2 (geI_f hΩ g2))] at he
      exact ⟨i + 1, ⟨by omega, he⟩, by omega, Sbs.mk rfl rfl ⟨rfl, incI hΩ (by omega), trivial⟩⟩
  · replace h := geI hΩ h
    exact .of (congrArg i64 (by rw [he, List.drop_of_length_le (by omega)]; rfl))
theorem c_arePlaces1 (k : Int) (l : List Pck) (hl : l.length ≤ 1048576) : PCtr PP n_impl_arePlaces_1 [i64 k, .rp [encP l]] (boo (!inB k 0 ((l.length : Int) - 1))) := by
  obtain ⟨Ω, hΩ⟩ : ∃ Ω, Ω = std := ⟨_, rfl⟩
  obtain ⟨r, hr⟩ : ∃ r, r = !inB k 0 ((l.length : Int) - 1) := ⟨_, rfl⟩
  rw [← hr]
  obtain ⟨xs, hxs⟩ : ∃ xs, xs = l.map (Pck.enc false) := ⟨_, rfl⟩
  have hlen : xs.length = l.length := by rw [hxs, List.length_map]
  unfold encP
  rw [← hxs]
  have hw : PCtr PP n_impl_within [i64 k, i64 0, i64 (Ω.ar .sub .i64 (Ω.int (Ω.len xs)) 1)] (boo (inB k 0 ((l.length : Int) - 1))) := by
    have := c_within k 0 ((l.length : Int) - 1)
    rw [show ((l.length : Int) - 1) = IntKind.i64.wrap ((xs.length : Int) - 1) by rw [wrap64 (by omega) (by omega), hlen]] at this ⊢
    subst hΩ
    exact this
  generalize inB k 0 ((l.length : Int) - 1) = b at *
  have htab := tab
  have hmo := hmo
  have hve := verEq
  refine PCtr.walk tab hΩ fn_impl_arePlaces_1 rfl ?_
  generalize PP = P at *
  cbv
  refine call_pure hΩ 3 hw rfl (fits _) rfl rfl ?_
  cbv
  exact .of (congrArg boo (by rw [hr]; subst hΩ; rfl))
theorem c_arePlaces (l : List Pck) (s : List Int) (hl : l.length ≤ 1048576) (hs : s.length ≤ 1048576) : PCtr PP n_impl_arePlaces [encP l, .sl false 1 (s.map i64)] (boo (s.all fun x => inB x 0 ((l.length : Int) - 1))) := by
  obtain ⟨Ω, hΩ⟩ : ∃ Ω, Ω = std := ⟨_, rfl⟩
  obtain ⟨r, hr⟩ : ∃ r, r = s.all fun x => inB x 0 ((l.length : Int) - 1) := ⟨_, rfl⟩
  rw [← hr]
  have hc := c_ContainsFuncI s (by omega) n_impl_arePlaces_1 [.rp [encP l]] (fun x => !inB x 0 ((l.length : Int) - 1)) ⟨fun _ _ => rfl, rfl, fun _ => rfl, fun k _ => c_arePlaces1 k l hl⟩
  rw [show (s.all fun x => inB x 0 ((l.length : Int) - 1)) = !(s.any fun x => !inB x 0 ((l.length : Int) - 1)) by rw [List.any_eq_not_all_not]; simp] at hr
  generalize (s.any fun x => !inB x 0 ((l.length : Int) - 1)) = b at *
  unfold encP at *
  generalize l.map (Pck.enc false) = xs at *
  generalize s.map i64 = ys at *
  have htab := tab
  have hmo := hmo
  have hve := verEq
  refine PCtr.walk tab hΩ fn_impl_arePlaces rfl ?_
  generalize PP = P at *
  cbv
  refine call_pure hΩ 5 hc (ro_clo2 rfl rfl) (fits _) rfl rfl ?_
  cbv
  exact .of (congrArg boo (by rw [hr]; subst hΩ; rfl))
theorem c_l3Set (l : List Pck) (s : List Int) (hl : l.length ≤ 1048576) (hs : s.length ≤ 1048576) : PCtr PP n_spec_l3Set [encP l, .sl false 1 (s.map i64)] (boo (setOk ((l.length : Int) - 1) s 0 s)) := by
  obtain ⟨Ω, hΩ⟩ : ∃ Ω, Ω = std := ⟨_, rfl⟩
  obtain ⟨r, hr⟩ : ∃ r, r = setOk ((l.length : Int) - 1) s 0 s := ⟨_, rfl⟩
  rw [← hr]
  obtain ⟨xs, hxs⟩ : ∃ xs, xs = s.map i64 := ⟨_, rfl⟩
  have hlen : xs.length = s.length := by rw [hxs, List.length_map]
  obtain ⟨cs, hcs⟩ : ∃ cs, cs = l.map (Pck.enc false) := ⟨_, rfl⟩
  have hcl : cs.length = l.length := by rw [hcs, List.length_map]
  unfold encP
  rw [← hcs]
  rw [← hxs]
  have hLm : Ω.ar .sub .i64 (Ω.int (Ω.len cs)) 1 = (l.length : Int) - 1 := by subst hΩ; show IntKind.i64.wrap ((cs.length : Int) - 1) = _; rw [hcl]; exact wrap64 (by omega) (by omega)
  have hw : ∀ k, PCtr PP n_spec_l1In [i64 k, i64 0, i64 (Ω.ar .sub .i64 (Ω.int (Ω.len cs)) 1)] (boo (inB k 0 ((l.length : Int) - 1))) := fun k => by rw [hLm]; exact c_l1In k 0 _
  generalize ((l.length : Int) - 1) = m at *
  have htab := tab
  have hmo := hmo
  have hve := verEq
  refine PCtr.walk tab hΩ fn_spec_l3Set rfl ?_
  generalize PP = P at *
  cbv
  refine loopX htab hΩ (fun i : Nat => ⟨[(0, .sl false 8 cs), (1, .sl false 1 xs), (5, .sc (.int .i64 (Ω.int i)))], 37, []⟩) (fun i => i ≤ s.length ∧ r = setOk m s i (s.drop i)) (fun i => s.length - i) 0
    ⟨Nat.zero_le _, hr⟩ (Sbs.mk rfl rfl ⟨rfl, rfl, zeroI hΩ, trivial⟩) ?_
  rintro i ⟨hi, he⟩
  cbv
  refine br (fun h => ?_) (fun h => ?_) <;> cbv
  · replace h := ltI hΩ h
    obtain ⟨c, hcc⟩ := at_of (cs := s) (by omega : i < s.length)
    rw [setOk_at _ hcc] at he
    refine ⟨VC_drawn htab hΩ hmo (by kernel_rfl) ?_⟩
    cbv
    refine ⟨⟨nnI hΩ⟩, _, rdI hΩ hxs hcc, ?_⟩
    cbv
    have hw1 := hw c
    generalize inB c 0 m = B at *
    refine QCall_pure (k := 3) hw1 rfl (fits _) rfl ?_
    cbv
    refine br (fun g => ?_) (fun g => ?_) <;> cbv
    · exact .of (congrArg boo (by rw [he, notT' hΩ g]; rfl))
    rw [notF' hΩ g, Bool.true_and] at he
    refine br (fun g2 => ?_) (fun g2 => ?_) <;> cbv
    · have hi0 : 0 < i := by subst hΩ; have g2 : (0 : Int) < i := gt_t g2; omega
      have hs1 := subI hΩ hi0 (by omega)
      obtain ⟨d, hd⟩ := at_of (cs := s) (by omega : i - 1 < s.length)
      rw [show (i == 0) = false by simp; omega, Bool.false_or, List.getD_eq_getElem?_getD, hd] at he
      refine ⟨⟨nnI hΩ⟩, _, rdI hΩ hxs hcc, ?_⟩
      cbv
      refine ⟨⟨hs1.1⟩, i64 d, by rw [hs1.2, hxs, List.getElem?_map, hd]; rfl, ?_⟩
      cbv
      refine br (fun g3 => ?_) (fun g3 => ?_) <;> cbv
      · exact .of (congrArg boo (by rw [he]; subst hΩ; have g3 : c ≤ d := le_t g3; rw [show decide ((some d).getD 0 < c) = false by simp; omega]; rfl))
      · rw [show decide ((some d).getD 0 < c) = true by subst hΩ; have g3 : d < c := le_f g3; simpa using g3, Bool.true_and] at he
        exact ⟨i + 1, ⟨by omega, he⟩, by omega, Sbs.mk rfl rfl ⟨rfl, rfl, incI hΩ (by omega), trivial⟩⟩
    · have hi0 : i = 0 := by subst hΩ; have g2 : (i : Int) ≤ 0 := gt_f g2; omega
      rw [show (i == 0) = true by simpa using hi0, Bool.true_or, Bool.true_and] at he
      refine br (fun g4 => ?_) (fun g4 => ?_)
      · subst hΩ; cases (show false = true from g4)
      cbv
      exact ⟨i + 1, ⟨by omega, he⟩, by omega, Sbs.mk rfl rfl ⟨rfl, rfl, incI hΩ (by omega), trivial⟩⟩
  · replace h := geI hΩ h
    exact .of (congrArg boo (by rw [he, List.drop_of_length_le (by omega)]; rfl))
theorem c_implSetFault (l : List Pck) (s : List Int) (hl : l.length ≤ 1048576) (ho : ∀ o ∈ l, o.Small) (hs : s.length ≤ 1048576) : PCtr PP n_impl_SetFault [encP l, .sl false 1 (s.map i64)] (i64 (setF l s)) := by
  obtain ⟨Ω, hΩ⟩ : ∃ Ω, Ω = std := ⟨_, rfl⟩
  obtain ⟨r, hr⟩ : ∃ r, r = setF l s := ⟨_, rfl⟩
  rw [← hr]
  have hc := c_implCatalogFault l hl ho
  have hp := c_arePlaces l s hl hs
  unfold setF at hr
  generalize catF l = k at *
  obtain ⟨xs, hxs⟩ : ∃ xs, xs = s.map i64 := ⟨_, rfl⟩
  have hlen : xs.length = s.length := by rw [hxs, List.length_map]
  obtain ⟨cs, hcs⟩ : ∃ cs, cs = l.map (Pck.enc false) := ⟨_, rfl⟩
  have hcl : cs.length = l.length := by rw [hcs, List.length_map]
  unfold encP at hc hp ⊢
  rw [← hcs] at hc hp ⊢
  rw [← hxs] at hp ⊢
  have htab := tab
  have hmo := hmo
  have hve := verEq
  refine PCtr.walk tab hΩ fn_impl_SetFault rfl ?_
  generalize PP = P at *
  cbv
  refine call_pure hΩ 3 hc rfl (fits _) rfl rfl ?_
  cbv
  refine br (fun g => ?_) (fun g => ?_) <;> cbv
  · exact .of (congrArg i64 (by rw [hr, if_pos (neI_t hΩ g)]))
  rw [if_neg (by rw [neI_f hΩ g]; simp)] at hr
  rw [setOk_eq, rise0] at hr
  generalize (s.all fun x => inB x 0 _) = B at *
  have fin : ∀ i, r = (if (riseAll s i (s.drop i) && B) = true then 0 else 1) → s.length ≤ i → r = if B = true then 0 else 1 := fun i he h => by
    rw [he, List.drop_of_length_le h, riseAll, Bool.true_and]
  refine loopX htab hΩ (fun i : Nat => ⟨[(0, .sl false 8 cs), (1, .sl false 1 xs), (6, .sc (.int .i64 (Ω.int i)))], 32, []⟩) (fun i => 1 ≤ i ∧ i ≤ s.length + 1 ∧ r = if (riseAll s i (s.drop i) && B) = true then 0 else 1) (fun i => s.length + 1 - i) 1
    ⟨Nat.le_refl _, by omega, hr⟩ (Sbs.mk rfl rfl ⟨rfl, rfl, by subst hΩ; rfl, trivial⟩) ?_
  rintro i ⟨hi0, hi, he⟩
  cbv
  refine br (fun h => ?_) (fun h => ?_) <;> cbv
  · replace h := ltI hΩ h
    obtain ⟨c, hcc⟩ := at_of (cs := s) (by omega : i < s.length)
    obtain ⟨d, hd⟩ := at_of (cs := s) (by omega : i - 1 < s.length)
    have hs1 := subI hΩ hi0 (by omega)
    rw [riseAll_at hcc, show (i == 0) = false by simp; omega, Bool.false_or, List.getD_eq_getElem?_getD, hd] at he
    refine ⟨VC_drawn htab hΩ hmo (by kernel_rfl) ?_⟩
    cbv
    refine ⟨⟨nnI hΩ⟩, _, rdI hΩ hxs hcc, ?_⟩
    cbv
    refine ⟨⟨hs1.1⟩, i64 d, by rw [hs1.2, hxs, List.getElem?_map, hd]; rfl, ?_⟩
    cbv
    refine br (fun g3 => ?_) (fun g3 => ?_) <;> cbv
    · exact .of (congrArg i64 (by rw [he]; subst hΩ; have g3 : c ≤ d := le_t g3; rw [show decide ((some d).getD 0 < c) = false by simp; omega]; rfl))
    · rw [show decide ((some d).getD 0 < c) = true by subst hΩ; have g3 : d < c := le_f g3; simpa using g3, Bool.true_and] at he
      exact ⟨i + 1, ⟨by omega, by omega, he⟩, by omega, Sbs.mk rfl rfl ⟨rfl, rfl, incI hΩ (by omega), trivial⟩⟩
  · replace h := geI hΩ h
    have hr := fin i he (by omega)
    refine call_pure hΩ 3 hp rfl (fits _) rfl rfl ?_
    cbv
    refine br (fun g => ?_) (fun g => ?_) <;> cbv
    · exact .of (congrArg i64 (by rw [hr, notT' hΩ g]; rfl))
    · exact .of (congrArg i64 (by rw [hr, notF' hΩ g]; rfl))
theorem c_specSetFault (l : List Pck) (s : List Int) (hl : l.length ≤ 1048576) (ho : ∀ o ∈ l, o.Small) (hs : s.length ≤ 1048576) : PCtr PP n_spec_SetFault [encP l, .sl false 1 (s.map i64)] (i64 (setF l s)) := by
  obtain ⟨Ω, hΩ⟩ : ∃ Ω, Ω = std := ⟨_, rfl⟩
  obtain ⟨r, hr⟩ : ∃ r, r = setF l s := ⟨_, rfl⟩
  rw [← hr]
  have hc := c_specCatalogFault l hl ho
  have hp := c_l3Set l s hl hs
  unfold setF at hr
  generalize catF l = k at *
  obtain ⟨xs, hxs⟩ : ∃ xs, xs = s.map i64 := ⟨_, rfl⟩
  have hlen : xs.length = s.length := by rw [hxs, List.length_map]
  obtain ⟨cs, hcs⟩ : ∃ cs, cs = l.map (Pck.enc false) := ⟨_, rfl⟩
  have hcl : cs.length = l.length := by rw [hcs, List.length_map]
  unfold encP at hc hp ⊢
  rw [← hcs] at hc hp ⊢
  rw [← hxs] at hp ⊢
  generalize setOk ((l.length : Int) - 1) s 0 s = b at *
  have htab := tab
  have hmo := hmo
  have hve := verEq
  refine PCtr.walk tab hΩ fn_spec_SetFault rfl ?_
  generalize PP = P at *
  cbv
  refine call_pure hΩ 3 hc rfl (fits _) rfl rfl ?_
  cbv
  refine br (fun g => ?_) (fun g => ?_) <;> cbv
  · exact .of (congrArg i64 (by rw [hr, if_pos (neI_t hΩ g)]))
  rw [if_neg (by rw [neI_f hΩ g]; simp)] at hr
  refine call_pure hΩ 3 hp rfl (fits _) rfl rfl ?_
  cbv
  refine br (fun g => ?_) (fun g => ?_) <;> cbv
  · exact .of (congrArg i64 (by rw [hr, notT' hΩ g]; rfl))
  · exact .of (congrArg i64 (by rw [hr, notF' hΩ g]; rfl))
end Go.Proofs.YtomfmdfamlmfiaaGreat

/- Walks: sets by a function value; who is barred. Plain theorems. -/
set_option linter.unusedVariables false
set_option linter.unusedSimpArgs false
namespace Go.Proofs.YtomfmdfamlmfiaaGreat
open Go Go.Fw
set_option maxRecDepth 100000
def ints (l : List Int) : A := .sl true 1 (l.map i64)
theorem frzInt (l : List Int) : (l.map i64).map frz = l.map i64 := by
  rw [List.map_map]; exact List.map_congr_left fun c _ => rfl
theorem noInt (l : List Int) : (∀ y ∈ l.map i64, noOwn y = true) ∧ (∀ c ∈ flat (l.map i64), okCell c = true) ∧ (∀ y ∈ l.map i64, isAggB y = false) ∧ (∀ y ∈ l.map i64, vStore.isAggA y = false) := by
  refine ⟨fun y hy => ?_, fun y hy => ?_, fun y hy => ?_, fun y hy => ?_⟩
  · obtain ⟨c, _, rfl⟩ := List.mem_map.1 hy; rfl
  · obtain ⟨x, hx, hy⟩ := List.mem_flatMap.1 hy
    obtain ⟨c, _, rfl⟩ := List.mem_map.1 hx
    have : y = i64 c := by simpa [i64, A.cells] using hy
    rw [this]; rfl
  · obtain ⟨c, _, rfl⟩ := List.mem_map.1 hy; rfl
  · obtain ⟨c, _, rfl⟩ := List.mem_map.1 hy; rfl
theorem roFInt (l : List Int) : roFree (.sl true 1 (l.map i64)) = true := by
  rw [roFree_sl, Bool.true_and, List.all_eq_true]
  intro x hx
  obtain ⟨c, _, rfl⟩ := List.mem_map.1 hx
  rfl
theorem idx_spec (p : Int → Bool) : ∀ (l : List Int) (i : Nat), (idxFrom p i l = -1 ∧ (l.filter fun x => !p x) = l) ∨ ∃ m, idxFrom p i l = ((i + m : Nat) : Int) ∧ m < l.length ∧ ((l.take (m + 1)).filter fun x => !p x) = l.take m
  | [], i => .inl ⟨rfl, rfl⟩
  | x :: xs, i => by
    rw [idxFrom]
    by_cases h : p x = true
    · right
      refine ⟨0, by rw [if_pos h]; simp, by simp, by simp [h]⟩
    · rw [if_neg h]
      rcases idx_spec p xs (i + 1) with ⟨h1, h2⟩ | ⟨m, h1, h2, h3⟩
      · left
        refine ⟨h1, ?_⟩
        rw [List.filter_cons_of_pos (by simpa using h), h2]
      · right
        refine ⟨m + 1, by rw [h1]; congr 1; omega, by simp; omega, ?_⟩
        rw [List.take_succ_cons, List.filter_cons_of_pos (by simpa using h), h3, List.take_succ_cons]
theorem filter_at {p : Int → Bool} {s : List Int} {j : Nat} {c : Int} (h : s[j]? = some c) : ((s.take (j + 1)).filter fun x => !p x) = ((s.take j).filter fun x => !p x) ++ (if p c then [] else [c]) := by
  rw [List.take_add_one, h, List.filter_append]
  congr 1
  by_cases hc : p c <;> simp [hc]
theorem take_set_add {ys : List A} {i : Nat} {z : A} (h : i < ys.length) : (ys.set i z).take (i + 1) = ys.take i ++ [z] := by
  rw [List.take_add_one, List.getElem?_set_self h, List.take_set_of_le (Nat.le_refl _)]; rfl
theorem c_Clone (s : List Int) (hs : s.length ≤ 1048576) : PCtr PP n_slices_Clone_L_int64_int64 [.sl false 1 (s.map i64)] (ints s) := by
  obtain ⟨Ω, hΩ⟩ : ∃ Ω, Ω = std := ⟨_, rfl⟩
  unfold ints
  obtain ⟨xs, hxs⟩ : ∃ xs, xs = s.map i64 := ⟨_, rfl⟩
  have hlen : xs.length = s.length := by rw [hxs, List.length_map]
  have hno := noInt s
  have hfz := frzInt s
  rw [← hxs] at hno hfz ⊢
  have htab := tab
  refine PCtr.walk tab hΩ fn_slices_Clone_L_int64_int64 rfl ?_
  generalize PP = P at *
  cbv
  intro b hb
  refine br (fun g => ?_) (fun g => ?_) <;> cbv
  · exact ⟨1, hb g⟩
  refine ⟨⟨hno.1, hno.2.1, ?_, ?_⟩, ⟨rfl, ?_⟩, .of ?_⟩
  · show (0 + xs.length) * 8 ≤ 140737488355328
    omega
  · show 0 + xs.length ≤ 9223372036854775807
    omega
  · subst hΩ; show 0 + xs.length ≤ (List.take 0 [] ++ xs).length; simp
  · subst hΩ; show A.sl true 1 ((List.take 0 [] ++ xs).take (0 + xs.length)) = _; rw [List.take_of_length_le (by simp)]; rfl
theorem c_DeleteFunc (s : List Int) (hs : s.length ≤ 1048576) (g : Nat) (caps : List A) (p : Int → Bool) (hf : CloB PP i64 s g caps p) : ECtr PP n_slices_DeleteFunc_L_int64_int64 [.sl true 1 (s.map i64), .clo g caps] (ints (s.filter fun x => !p x)) := by
  obtain ⟨Ω, hΩ⟩ : ∃ Ω, Ω = std := ⟨_, rfl⟩
  unfold ints
  have hc := c_IndexFuncI s (by omega) g caps p hf
  have hro := hf.ro
  have hcn := hf.no
  have hrun : ∀ x ∈ s, PCtr PP (Ω.cloN g) (Ω.cloA g [i64 x] caps) (boo (p x)) := by subst hΩ; exact hf.run
  obtain ⟨k, hk⟩ : ∃ k, idx p s = k := ⟨_, rfl⟩
  rw [hk] at hc
  obtain ⟨xs, hxs⟩ : ∃ xs, xs = s.map i64 := ⟨_, rfl⟩
  have hlen : xs.length = s.length := by rw [hxs, List.length_map]
  have hno := noInt s
  have hfz := frzInt s
  rw [← hxs] at hno hfz hc ⊢
  have hle : Ω.len xs = xs.length := by subst hΩ; rfl
  obtain ⟨zs, hzs⟩ : ∃ zs, zs = (s.filter fun x => !p x).map i64 := ⟨_, rfl⟩
  rw [← hzs]
  have htab := tab
  refine ECtr.walk tab hΩ 3 fn_slices_DeleteFunc_L_int64_int64 rfl (by simp only [rootO, rootO.rootOL, List.all_cons, List.all_nil, noOwn_vw, noOwn_clo, hcn]; rfl) ?_
  generalize PP = P at *
  cbv
  refine call_pure hΩ 5 hc (ro_clo2 (roV rfl hle hfz) (hro _ 0)) (fits _) rfl rfl ?_
  cbv
  refine br (fun g1 => ?_) (fun g1 => ?_) <;> cbv
  · have g1 : k = -1 := eqI_t hΩ g1
    rcases idx_spec p s 0 with ⟨h1, h2⟩ | ⟨m, h1, _⟩
    · refine ⟨⟨rfl, by subst hΩ; exact Nat.le_refl _⟩, .of ?_⟩
      rw [hzs, h2, ← hxs]
      subst hΩ
      show A.sl true 1 (xs.take xs.length) = _
      rw [List.take_length]
    · have : k = ((0 + m : Nat) : Int) := by rw [← hk]; exact h1
      omega
  have g1 : k ≠ -1 := eqI_f hΩ g1
  obtain ⟨m, hkm, hml, hfm⟩ : ∃ m : Nat, k = Ω.int m ∧ m < s.length ∧ ((s.take (m + 1)).filter fun x => !p x) = s.take m := by
    rcases idx_spec p s 0 with ⟨h1, _⟩ | ⟨m, h1, h2, h3⟩
    · exact absurd (hk.symm.trans h1) g1
    · rw [Nat.zero_add] at h1
      exact ⟨m, by subst hΩ; exact hk.symm.trans h1, h2, h3⟩
  subst hkm
  obtain ⟨F, hF⟩ : ∃ F : Nat → List Int, F = fun j => (s.take j).filter fun x => !p x := ⟨_, rfl⟩
  have hFat : ∀ j c, s[j]? = some c → F (j + 1) = F j ++ (if p c then [] else [c]) := fun j c h => by rw [hF]; exact filter_at h
  have hFm : F (m + 1) = s.take m := by rw [hF]; exact hfm
  have hFml : (F (m + 1)).length = m := by rw [hFm]; simp; omega
  have hFn : F s.length = s.filter fun x => !p x := by rw [hF]; simp only; rw [List.take_length]
  refine loopX htab hΩ (fun i : Nat × List A => ⟨[(0, .vw 0 0 (Ω.len xs)), (1, .clo g caps), (5, .sc (.int .i64 (Ω.int (F i.1).length))), (6, .sc (.int .i64 (Ω.int i.1)))], 42, [some ⟨1, i.2, false⟩]⟩)
    (fun i => (F i.1).length < i.1 ∧ i.1 ≤ s.length ∧ i.2.length = s.length ∧ i.2.take (F i.1).length = (F i.1).map i64 ∧ (∀ q, i.1 ≤ q → i.2[q]? = xs[q]?) ∧ (∀ y ∈ i.2, isAggB y = false) ∧ (∀ y ∈ i.2, vStore.isAggA y = false))
    (fun i => s.length - i.1) (m + 1, xs) ⟨by dsimp only; omega, by dsimp only; omega, hlen, ?_, fun _ _ => rfl, hno.2.2.1, hno.2.2.2⟩ (Sbs.mk rfl rfl ⟨rfl, rfl, by rw [hFml]; rfl, incI hΩ (by omega), trivial⟩) ?_
  · dsimp only
    rw [hFml, hFm, hxs, List.map_take]
  rintro ⟨j, ys⟩ ⟨h1, h2, h3, h4, h5, h6, h7⟩
  dsimp only at h1 h2 h3 h4 h5 h6 h7
  obtain ⟨f, hf2⟩ : ∃ f, f = (F j).length := ⟨_, rfl⟩
  rw [← hf2] at h1 h4
  dsimp only
  rw [← hf2]
  cbv
  refine br (fun h => ?_) (fun h => ?_) <;> cbv
  · replace h := ltI hΩ h
    obtain ⟨c, hcc⟩ := at_of (cs := s) (by omega : j < s.length)
    have hyj : ys[j]? = some (i64 c) := by rw [h5 j (Nat.le_refl _), hxs, List.getElem?_map, hcc]; rfl
    have hFj := hFat j c hcc
    have hr1 := hrun c (List.mem_of_getElem? hcc)
    refine ⟨⟨ixI hΩ (by show j < Ω.len xs; rw [hle]; exact h)⟩, i64 c, atI hΩ hyj, ?_⟩
    cbv
    refine call_pure hΩ 4 hr1 (ro_cloA hΩ rfl (hro _ 0)) (fits _) rfl rfl ?_
    cbv
    refine br (fun g => ?_) (fun g => ?_) <;> cbv
    · have g := notT' hΩ g
      rw [g] at hFj
      have hFl : (F (j + 1)).length = f + 1 := by rw [hFj, hf2]; simp
      have hfl : f < ys.length := by omega
      refine ⟨⟨ixI hΩ (by show f < Ω.len xs; rw [hle]; omega)⟩, ⟨by subst hΩ; show 0 + f < ys.length; omega, h7⟩, ?_⟩
      refine ⟨(j + 1, ys.set f (i64 c)), ⟨by dsimp only; omega, by dsimp only; omega, by simpa using h3, ?_, fun q hq => ?_, fun y hy => ?_, fun y hy => ?_⟩, by dsimp only; omega, Sbs.mk rfl ?_ ⟨rfl, rfl, ?_, incI hΩ (by omega), trivial⟩⟩
      · dsimp only; rw [hFl, take_set_add hfl, h4, hFj, List.map_append]; rfl
      · dsimp only at hq ⊢; rw [List.getElem?_set_ne (by omega)]; exact h5 q (by omega)
      · rcases List.mem_or_eq_of_mem_set hy with hy | rfl
        · exact h6 y hy
        · rfl
      · rcases List.mem_or_eq_of_mem_set hy with hy | rfl
        · exact h7 y hy
        · rfl
      · subst hΩ; show [some (Row.mk 1 (ys.set (0 + f) (i64 c)) false)] = _; rw [Nat.zero_add]
      · dsimp only; rw [hFl]; exact incI hΩ (by omega)
    · have g : p c = true := notF' hΩ g
      rw [g] at hFj
      have hFl : (F (j + 1)).length = f := by rw [hFj, hf2]; simp
      exact ⟨(j + 1, ys), ⟨by dsimp only; omega, by dsimp only; omega, h3, by dsimp only; rw [hFl, h4, hFj]; simp, fun q hq => h5 q (by dsimp only at hq; omega), h6, h7⟩, by dsimp only; omega, Sbs.mk rfl rfl ⟨rfl, rfl, by dsimp only; rw [hFl]; rfl, incI hΩ (by omega), trivial⟩⟩
  · have hj : j = s.length := by have := geI hΩ h; omega
    subst hj
    refine ⟨⟨nnI hΩ, trivial, ?_, Nat.le_refl _⟩, ⟨?_, h6⟩, ⟨trivial, nnI hΩ, Nat.zero_le _, ?_⟩, ⟨?_, ?_⟩, .of ?_⟩
    · subst hΩ; show f ≤ xs.length; omega
    · subst hΩ; show 0 + f + (xs.length - f) = ys.length; omega
    · subst hΩ; show f ≤ xs.length; omega
    · subst hΩ; rfl
    · subst hΩ; show f - 0 ≤ (ys.take (0 + f) ++ List.replicate (xs.length - f) (A.sc (Value.int IntKind.i64 0))).length; simp; omega
    · subst hΩ
      show A.sl true 1 ((ys.take (0 + f) ++ List.replicate (xs.length - f) (A.sc (Value.int IntKind.i64 0))).take (f - 0)) = _
      rw [Nat.zero_add, Nat.sub_zero, List.take_append_of_le_length (by simp; omega), List.take_take, Nat.min_self, h4, hzs, hFn]
theorem c_those1 (g : Nat) (caps : List A) (b : Bool) (k : Int) (hro : ∀ S k, mapO (roO S (k + 4)) caps = some caps) (hf : PCtr PP (Fw.cloN g) (Fw.cloA g [i64 k] caps) (boo b)) : PCtr PP n_impl_those_1 [i64 k, .rp [.clo g caps]] (boo (!b)) := by
  obtain ⟨Ω, hΩ⟩ : ∃ Ω, Ω = std := ⟨_, rfl⟩
  have hrun : PCtr PP (Ω.cloN g) (Ω.cloA g [i64 k] caps) (boo b) := by subst hΩ; exact hf
  have htab := tab
  refine PCtr.walk tab hΩ fn_impl_those_1 rfl ?_
  generalize PP = P at *
  cbv
  refine call_pure hΩ 4 hrun (ro_cloA hΩ rfl (hro _ 0)) (fits _) rfl rfl ?_
  cbv
  exact .of (congrArg boo (by subst hΩ; rfl))
theorem c_those (s : List Int) (hs : s.length ≤ 1048576) (g : Nat) (caps : List A) (p : Int → Bool) (hf : CloB PP i64 s g caps p) : PCtr PP n_impl_those [.sl false 1 (s.map i64), .clo g caps] (ints (s.filter p)) := by
  obtain ⟨Ω, hΩ⟩ : ∃ Ω, Ω = std := ⟨_, rfl⟩
  have hcl := c_Clone s hs
  have hd := c_DeleteFunc s hs n_impl_those_1 [.rp [.clo g caps]] (fun x => !p x) ⟨fun S k => by rfl, rfl, fun _ => rfl, fun x hx => c_those1 g caps (p x) x hf.ro (hf.run x hx)⟩
  have hro := hf.ro
  have hcn := hf.no
  have hkl := hf.kl
  have hroF := roFInt s
  have hroZ := roFInt (s.filter p)
  rw [show (s.filter fun x => !!p x) = s.filter p by congr 1; funext x; simp] at hd
  unfold ints at hcl hd ⊢
  generalize s.map i64 = xs at *
  generalize (s.filter p).map i64 = zs at *
  have htab := tab
  refine PCtr.walk tab hΩ fn_impl_those rfl ?_
  generalize PP = P at *
  cbv
  refine call_pure hΩ 3 hcl rfl (fits _) hroF rfl ?_
  cbv
  refine call_eat2 (row := ⟨1, xs, false⟩) hΩ 8 hd rfl rfl (by subst hΩ; rfl) (ro_clo1 (mapOne (roPt (x := .clo g caps) (by show some (Row.mk 1 [A.clo g (killL 1 caps)] true) = _; rw [hkl]) (ro_clo1 (hro _ 1))))) (fits _) hroZ rfl ?_
  cbv
  refine ⟨⟨rfl, by subst hΩ; exact Nat.le_refl _⟩, .of ?_⟩
  subst hΩ
  show A.sl true 1 (zs.take zs.length) = _
  rw [List.take_length]
end Go.Proofs.YtomfmdfamlmfiaaGreat

/- Sets with a code. Plain theorems. -/
set_option linter.unusedVariables false
set_option linter.unusedSimpArgs false
namespace Go.Proofs.YtomfmdfamlmfiaaGreat
open Go Go.Fw
set_option maxRecDepth 100000
def Pck.zero : Pck := ⟨[], Ver.zero, 0, [], [], []⟩
def pk (c : List Pck) (k : Int) : Pck := c.getD k.toNat Pck.zero
/-- A set with a code. -/
def setR (k a : Int) (s : List Int) : A := .agg [i64 k, i64 a, .sl true 1 (s.map i64)]
theorem fit_nilR (k a : Int) : FitX (.agg [i64 k, i64 a, .nil]) (setR k a []) := ⟨2, by unfold setR; simp [fitA, fitA.fitL, i64]⟩
theorem fit_R {Ω : Opq} (hΩ : Ω = std) (k a : Int) (s : List Int) {zs : List A} (h : zs = s.map i64) : FitX (.agg [i64 k, i64 a, .sl true 1 (Ω.take (Ω.len zs) zs)]) (setR k a s) := .of (by subst hΩ; subst h; unfold setR; show A.agg [_, _, A.sl true 1 ((s.map i64).take (s.map i64).length)] = _; rw [List.take_length])
theorem pk_at {c : List Pck} {k : Int} (h : inB k 0 ((c.length : Int) - 1) = true) : 0 ≤ k ∧ k.toNat < c.length ∧ c[k.toNat]? = some (pk c k) ∧ pk c k ∈ c := by
  unfold inB at h
  simp only [Bool.and_eq_true, decide_eq_true_eq] at h
  have hk : k.toNat < c.length := by omega
  refine ⟨h.1, hk, ?_, ?_⟩
  · rw [pk, List.getD_eq_getElem?_getD, List.getElem?_eq_getElem hk]; rfl
  · rw [pk, List.getD_eq_getElem?_getD, List.getElem?_eq_getElem hk]; exact List.getElem_mem hk
theorem setF_in {c : List Pck} {s : List Int} (h : setF c s = 0) : ∀ k ∈ s, inB k 0 ((c.length : Int) - 1) = true := by
  unfold setF at h
  split at h
  · rename_i h0; exact absurd h h0
  · split at h
    · rename_i h1
      rw [setOk_eq, Bool.and_eq_true] at h1
      exact List.all_eq_true.1 h1.2
    · simp at h
end Go.Proofs.YtomfmdfamlmfiaaGreat

/- Helpers of the walks. Plain theorems. -/
set_option linter.unusedVariables false
set_option linter.unusedSimpArgs false
namespace Go.Proofs.YtomfmdfamlmfiaaGreat
open Go Go.Fw
set_option maxRecDepth 100000
theorem takeAll {Ω : Opq} (hΩ : Ω = std) (xs : List A) : Ω.take (Ω.len xs) xs = xs := by subst hΩ; exact List.take_length
theorem roFAll {n : Nat} {xs : List A} (h : ∀ x ∈ xs, roFree x = true) : roFree (.sl true n xs) = true := by rw [roFree_sl, Bool.true_and, List.all_eq_true]; exact h
theorem enc_own (o : Pck) : ∃ ps ds bs, o.enc true = .agg [str o.n, i64 o.v.a, i64 o.v.b, i64 o.v.c, i64 o.s, .sl true 1 ps, .sl true 1 ds, .sl true 7 bs] ∧ ps = o.p.map str ∧ ds = o.d.map (encTs true) ∧ bs = o.b.map Trm.enc := ⟨_, _, _, rfl, rfl, rfl, rfl⟩
theorem fitsE {k : Nat} {a b : List A} (h : a = b) : fitA.fitL k a b := h ▸ fits a
theorem rdJ {Ω : Opq} (hΩ : Ω = std) {i : Nat} {xs : List A} {z : A} (h : xs[i]? = some z) : xs[(Ω.int i).toNat]? = some z := by subst hΩ; exact h
theorem ro_vw {S : State} {k r len n : Nat} {ys zs : List A} (hr : Fw.rowAt S.rows r = some ⟨n, ys, false⟩) (hl : len = ys.length) (hf : ys.map frz = zs) : roO S (k + 1) (.vw r 0 len) = some (.sl false n zs) := by
  simp only [roO, hr]
  rw [hl, List.drop_zero, List.take_length, hf]
  rfl
theorem mapO1 {f : A → Option A} {x x' : A} (h : f x = some x') : mapO f [x] = some [x'] := by simp [mapO, h]
theorem mapO2 {f : A → Option A} {x x' y y' : A} (h : f x = some x') (h2 : f y = some y') : mapO f [x, y] = some [x', y'] := by simp [mapO, h, h2]
theorem mapO3 {f : A → Option A} {x x' y y' z z' : A} (h : f x = some x') (h2 : f y = some y') (h3 : f z = some z') : mapO f [x, y, z] = some [x', y', z'] := by simp [mapO, h, h2, h3]
theorem frz_Pck (o : Pck) : frz (o.enc true) = o.enc false := by
  show frz (.agg _) = A.agg _
  rw [frz_agg]
  have h1 : (o.p.map str).map frz = o.p.map str := by rw [List.map_map]; exact List.map_congr_left fun c _ => rfl
  have h2 : (o.d.map (encTs true)).map frz = o.d.map (encTs false) := by
    rw [List.map_map]
    refine List.map_congr_left fun c _ => ?_
    show frz (A.sl true 7 _) = A.sl false 7 _
    rw [frz_sl, List.map_map]; rfl
  have h3 : (o.b.map Trm.enc).map frz = o.b.map Trm.enc := by rw [List.map_map]; exact List.map_congr_left fun c _ => rfl
  simp only [Pck.cells, List.map_cons, List.map_nil, frz_sl, h1, h2, h3]
  rfl
theorem frz_I (l : List Int) : (l.map i64).map frz = l.map i64 := by rw [List.map_map]; exact List.map_congr_left fun c _ => rfl
theorem roF_I (l : List Int) : roFree (.sl true 1 (l.map i64)) = true := roFAll fun x hx => by obtain ⟨c, _, rfl⟩ := List.mem_map.1 hx; rfl
theorem roF_setR (k a : Int) (l : List Int) : roFree (.agg [i64 k, i64 a, .sl true 1 (l.map i64)]) = true := by
  rw [roFree_agg]
  simp only [List.all_cons, List.all_nil, roF_I]
  rfl
end Go.Proofs.YtomfmdfamlmfiaaGreat

/- Walks: draws of packages. Plain theorems. -/
set_option linter.unusedVariables false
set_option linter.unusedSimpArgs false
namespace Go.Proofs.YtomfmdfamlmfiaaGreat
open Go Go.Fw
set_option maxRecDepth 100000
theorem decI {Ω : Opq} (hΩ : Ω = std) {k : Int} (h0 : 0 ≤ k) (h1 : k ≤ 4611686018427387904) : i64 (Ω.ar .sub .i64 k 1) = i64 (k - 1) := by subst hΩ; exact congrArg i64 (i64w (by omega) (by omega))
structure Pck.Tiny (o : Pck) : Prop where
  p : o.p.length ≤ 8
  d : o.d.length ≤ 8
  b : o.b.length ≤ 8
  e : ∀ l ∈ o.d, l.length ≤ 8
structure Pck.Tiny2 (o : Pck) : Prop where
  p : o.p.length ≤ 16
  d : o.d.length ≤ 16
  b : o.b.length ≤ 16
  e : ∀ l ∈ o.d, l.length ≤ 16
theorem Pck.Tiny2.small {o : Pck} (h : o.Tiny2) : o.Small := ⟨by have := h.p; omega, by have := h.d; omega, by have := h.b; omega, fun l hl => by have := h.e l hl; omega⟩
theorem Pck.Tiny.two {o : Pck} (h : o.Tiny) : o.Tiny2 := ⟨by have := h.p; omega, by have := h.d; omega, by have := h.b; omega, fun l hl => by have := h.e l hl; omega⟩
theorem fit_pack {o : Pck} {X D B : A} (hX : X = .sl true 1 (o.p.map str) ∨ X = .nil ∧ o.p = []) (hD : D = .sl true 1 (o.d.map (encTs true)) ∨ D = .nil ∧ o.d = [] ∨ fitA 2 D (.sl true 1 (o.d.map (encTs true)))) (hB : B = .sl true 7 (o.b.map Trm.enc) ∨ B = .nil ∧ o.b = []) :
    FitX (.agg [str o.n, i64 o.v.a, i64 o.v.b, i64 o.v.c, i64 o.s, X, D, B]) (o.enc true) := by
  refine ⟨3, ?_⟩
  have e : ∀ (n : Nat) (Y : A) (ys : List A), (Y = .sl true n ys ∨ Y = .nil ∧ ys = []) → fitA 2 Y (.sl true n ys) := fun n Y ys h => by
    rcases h with rfl | ⟨rfl, rfl⟩
    · exact fitA_refl _ _
    · rfl
  have hD' : fitA 2 D (.sl true 1 (o.d.map (encTs true))) := by
    rcases hD with h | h | h
    · exact e _ _ _ (.inl h)
    · exact e _ _ _ (.inr ⟨h.1, by rw [h.2]; rfl⟩)
    · exact h
  show fitA.fitL 2 _ [str o.n, i64 o.v.a, i64 o.v.b, i64 o.v.c, i64 o.s, .sl true 1 (o.p.map str), .sl true 1 (o.d.map (encTs true)), .sl true 7 (o.b.map Trm.enc)]
  exact ⟨fitA_refl _ _, fitA_refl _ _, fitA_refl _ _, fitA_refl _ _, fitA_refl _ _, e _ _ _ (hX.imp id fun h => ⟨h.1, by rw [h.2]; rfl⟩), hD', e _ _ _ (hB.imp id fun h => ⟨h.1, by rw [h.2]; rfl⟩), trivial⟩
theorem d_l2Pack {bs : List A} (hb : Src bs) (p : Int) (h0 : 0 ≤ p) (h1 : p + 60 ≤ 1099511627776) : XCtr PP n_spec_l2Pack [src bs p] (DR bs p 60 [] fun x => ∃ o : Pck, x = o.enc true ∧ o.Tiny) := by
  obtain ⟨Ω, hΩ⟩ : ∃ Ω, Ω = std := ⟨_, rfl⟩
  have hA := d_AnyTerm
  have hN := fun p n a b c => d_l1Next hb p n a b c
  have hC := fun p n a b c => d_l1Chance hb p n a b c
  have hP := fun p ns a b c d => d_l1Pick hb p ns a b c d
  have hl1DrawName := fun p a b => d_l1DrawName hb p a b
  have hl1Version := fun p a b => d_l1Version hb p a b
  have hl1Term := fun p a b => d_l1Term hb p a b
  have htab := tab
  have hmo := hmo
  refine XCtr.walkO tab hΩ 3 fn_spec_l2Pack rfl rfl ?_
  generalize PP = P at *
  cbv
  refine call_dr false hΩ 3 (hl1DrawName _ (by omega) (by omega)) rfl rfl rfl (fun q1 x q1a q1b ⟨nm, hx⟩ => ?_)
  subst hx
  cbv
  refine call_dr false hΩ 3 (hN _ _ (by omega) (by omega) (by omega)) rfl rfl rfl (fun q2 x q2a q2b ⟨va, hx, hva⟩ => ?_)
  subst hx
  cbv
  refine call_dr false hΩ 3 (hN _ _ (by omega) (by omega) (by omega)) rfl rfl rfl (fun q3 x q3a q3b ⟨sz, hx, hsz⟩ => ?_)
  subst hx
  cbv
  refine call_dr false hΩ 3 (hC _ _ (by omega) (by omega) (by omega)) rfl rfl rfl (fun q4 x q4a q4b ⟨cp, hx⟩ => ?_)
  subst hx
  cbv
  refine br (fun hcp => ?_) (fun hcp => ?_) <;> cbv
  · refine call_dr false hΩ 3 (hN _ 2 (by omega) (by omega) (by omega)) rfl rfl rfl (fun q5 x q5a q5b ⟨r, hx, hr⟩ => ?_)
    subst hx
    cbv
    obtain ⟨pn, _, hnm⟩ := nth_of (f := str) (ns := [[109, 97, 105, 108], [100, 98]]) hΩ rfl (hr.2 (by omega)).1 (hr.2 (by omega)).2
    refine ⟨⟨hr.2 (by omega)⟩, _, hnm, ?_⟩
    cbv
    refine call_pick (ns := [0, 0, 1, 1, 2]) hΩ (hP _ _ (by omega) (by omega) (Nat.zero_lt_succ _) (Nat.le_of_ble_eq_true rfl)) rfl rfl rfl rfl (by decide) (fun q6 n q6a q6b hn => ?_)
    replace hn : 0 ≤ n ∧ n ≤ 2 := by simp at hn; omega
    cbv
    obtain ⟨F, hF⟩ : ∃ F : List (List Trm) → List A, F = fun ds => ds.map (encTs true) := ⟨_, rfl⟩
    have hF0 : F [] = [] := by rw [hF]; rfl
    have hFl : ∀ ds, (F ds).length = ds.length := fun ds => by rw [hF]; exact List.length_map _
    have hFs : ∀ (ds : List (List Trm)) (ts : List Trm), Ω.app (Ω.take ds.length (F ds)) [.sl true 7 (ts.map Trm.enc)] = F (ds ++ [ts]) := fun ds ts => by
      subst hΩ; rw [hF]; show List.take ds.length (List.map (encTs true) ds) ++ _ = List.map (encTs true) (ds ++ [ts])
      rw [List.map_append, List.take_of_length_le (by simp)]; rfl
    have hFd : ∀ ds : List (List Trm), Ω.take ds.length (F ds) = ds.map (encTs true) := fun ds => by subst hΩ; rw [hF]; exact List.take_of_length_le (by simp)
    clear hF
    refine loopX htab hΩ (fun i : Int × Int × List (List Trm) => ⟨[(0, .pt 0 0 0), (2, .pt 1 0 0), (3, .pt 2 0 0), (4, i64 i.1), (63, .pt 0 0 0)], 63, [some ⟨2, [.agg [.sl false 1 bs, i64 i.2.1]], true⟩, some ⟨8, [.agg [str [], i64 0, i64 0, i64 0, i64 0, .nil, .nil, .nil]], true⟩, some ⟨8, [.agg [str nm, i64 (Ω.ar .add .i64 1 va), i64 0, i64 0, i64 (Ω.ar .add .i64 1 sz), .vw 4 0 1, .vw 5 0 i.2.2.length, .nil]], true⟩, none, some ⟨1, [str pn], false⟩, some ⟨1, F i.2.2, false⟩]⟩) (fun i => 0 ≤ i.1 ∧ i.1 ≤ 2 ∧ p ≤ i.2.1 ∧ i.2.1 + 20 * i.1 ≤ p + 46 ∧ (i.2.2.length : Int) + i.1 ≤ 2 ∧ ∀ l ∈ i.2.2, l.length ≤ 8) (fun i => i.1.toNat) (n, q6, [])
      ⟨by dsimp only; omega, by dsimp only; omega, by dsimp only; omega, by dsimp only; omega, by show ((0 : Nat) : Int) + n ≤ 2; omega, by simp⟩ ((Sbs.cut 5 rfl).trans ((Sbs.drop (r := 3) rfl).trans ((Sbs.nilCell (r := 2) (j := 0) (q := 6) (n := 1) rfl rfl rfl).trans (Sbs.mk rfl (by show _ = [_, _, _, _, _, some (Row.mk 1 (F []) false)]; rw [hF0]; rfl) ⟨rfl, rfl, rfl, rfl, rfl, trivial⟩)))) ?_
    rintro ⟨k, q, ds⟩ ⟨i1, i2, i3, i4, i5, i6⟩
    dsimp only at i1 i2 i3 i4 i5 i6
    have hFli := hFl ds
    have hFsi := hFs ds
    obtain ⟨m, hm⟩ : ∃ m, ds.length = m := ⟨_, rfl⟩
    have hrows : ∀ {R0 R1 R4 : Option Row} {a0 a1 a2 a3 a4 a5 a7 : A} {l : Nat} {X : List A} {ts : List Trm}, X = ts.map Trm.enc → l = m + 1 → [R0, R1, some (Row.mk 8 [.agg [a0, a1, a2, a3, a4, a5, .vw 5 0 l, a7]] true), none, R4, some (Row.mk 1 (Ω.app (Ω.take m (F ds)) [.sl true 7 X]) false)] =
        [R0, R1, some (Row.mk 8 [.agg [a0, a1, a2, a3, a4, a5, .vw 5 0 (ds ++ [ts]).length, a7]] true), none, R4, some (Row.mk 1 (F (ds ++ [ts])) false)] := fun {R0 R1 R4 a0 a1 a2 a3 a4 a5 a7 l X ts} h1 h2 => by
      rw [h1, h2, ← hm, hFsi, List.length_append]; rfl
    have hall : ∀ ts : List Trm, ts.length ≤ 8 → ∀ l ∈ ds ++ [ts], l.length ≤ 8 := fun ts h l hl => by
      rcases List.mem_append.1 hl with h1 | h1
      · exact i6 l h1
      · rw [List.mem_singleton.1 h1]; exact h
    rw [hm] at hFli hFsi i5 ⊢
    have hm2 : m ≤ 2 := by omega
    have hds : ds.length ≤ 8 := by omega
    have hFdi : A.sl true 1 (Ω.take m (F ds)) = .sl true 1 (ds.map (encTs true)) := by rw [← hm, hFd]
    have h5 : ∀ ts : List Trm, ((ds ++ [ts]).length : Int) + (k - 1) ≤ 2 := fun ts => by rw [List.length_append, hm, List.length_singleton]; omega
    cbv
    refine br (fun hk => ?_) (fun hk => ?_) <;> cbv
    · have hk := gtI_t hΩ hk
      refine call_dr false hΩ 3 (hl1Term _ (by omega) (by omega)) rfl rfl rfl (fun r1 x r1a r1b ⟨t1, hx⟩ => ?_)
      obtain ⟨t1n, ⟨t1a, t1b, t1c⟩, ⟨t1d, t1e, t1f⟩⟩ := t1
      subst hx
      cbv
      refine call_dr false hΩ 3 (hC _ _ (by omega) (by omega) (by omega)) rfl rfl rfl (fun r2 x r2a r2b ⟨c1, hx⟩ => ?_)
      subst hx
      cbv
      refine br (fun hc1 => ?_) (fun hc1 => ?_) <;> cbv
      · refine call_dr false hΩ 3 (hl1Term _ (by omega) (by omega)) rfl rfl rfl (fun r3 x r3a r3b ⟨t2, hx⟩ => ?_)
        obtain ⟨t2n, ⟨t2a, t2b, t2c⟩, ⟨t2d, t2e, t2f⟩⟩ := t2
        subst hx
        cbv
        refine ⟨⟨rfl, okAll rfl, by show (1 + 1) * 64 ≤ 140737488355328; omega, by show 1 + 1 ≤ 9223372036854775807; omega⟩, ?_⟩
        refine call_dr false hΩ 3 (hC _ _ (by omega) (by omega) (by omega)) rfl rfl rfl (fun r4 x r4a r4b ⟨c2, hx⟩ => ?_)
        subst hx
        cbv
        refine br (fun hc2 => ?_) (fun hc2 => ?_) <;> cbv
        · refine call_pure hΩ 3 (hA _) rfl (fits _) rfl rfl ?_
          cbv
          refine ⟨⟨by subst hΩ; exact ⟨Int.le_refl _, Int.ofNat_lt.2 (Nat.zero_lt_succ _)⟩⟩, ⟨by subst hΩ; exact ⟨show 0 + 0 < _ from Nat.zero_lt_succ _, fun z hz => List.all_eq_true.1 (show List.all _ (isAggN 7) = true from rfl) z hz⟩⟩, ⟨by subst hΩ; exact ⟨rfl, Nat.le_refl _⟩⟩, ⟨rfl, okAll rfl, by show (m + 1) * 24 ≤ 140737488355328; omega, by show m + 1 ≤ 9223372036854775807; omega⟩, (k - 1, r4, ds ++ [[inTop [109, 97, 105, 108], ⟨t2n, ⟨t2a, t2b, t2c⟩, ⟨t2d, t2e, t2f⟩⟩]]), ⟨by dsimp only; omega, by dsimp only; omega, by dsimp only; omega, by dsimp only; omega, h5 _, hall _ (by simp)⟩, by dsimp only; omega, (Sbs.cut 6 rfl).trans (Sbs.mk rfl (hrows (by subst hΩ; rfl) (by subst hΩ; rfl)) ⟨rfl, rfl, rfl, decI hΩ (by omega) (by omega), rfl, trivial⟩)⟩
        · refine ⟨⟨by subst hΩ; exact ⟨rfl, Nat.le_refl _⟩⟩, ⟨rfl, okAll rfl, by show (m + 1) * 24 ≤ 140737488355328; omega, by show m + 1 ≤ 9223372036854775807; omega⟩, (k - 1, r4, ds ++ [[⟨t1n, ⟨t1a, t1b, t1c⟩, ⟨t1d, t1e, t1f⟩⟩, ⟨t2n, ⟨t2a, t2b, t2c⟩, ⟨t2d, t2e, t2f⟩⟩]]), ⟨by dsimp only; omega, by dsimp only; omega, by dsimp only; omega, by dsimp only; omega, h5 _, hall _ (by simp)⟩, by dsimp only; omega, (Sbs.cut 6 rfl).trans (Sbs.mk rfl (hrows (by subst hΩ; rfl) (by subst hΩ; rfl)) ⟨rfl, rfl, rfl, decI hΩ (by omega) (by omega), rfl, trivial⟩)⟩
      · refine call_dr false hΩ 3 (hC _ _ (by omega) (by omega) (by omega)) rfl rfl rfl (fun r4 x r4a r4b ⟨c2, hx⟩ => ?_)
        subst hx
        cbv
        refine br (fun hc2 => ?_) (fun hc2 => ?_) <;> cbv
        · refine call_pure hΩ 3 (hA _) rfl (fits _) rfl rfl ?_
          cbv
          refine ⟨⟨by subst hΩ; exact ⟨Int.le_refl _, Int.ofNat_lt.2 (Nat.zero_lt_succ _)⟩⟩, ⟨by subst hΩ; exact ⟨show 0 + 0 < _ from Nat.zero_lt_succ _, fun z hz => List.all_eq_true.1 (show List.all _ (isAggN 7) = true from rfl) z hz⟩⟩, ⟨by subst hΩ; exact ⟨rfl, Nat.le_refl _⟩⟩, ⟨rfl, okAll rfl, by show (m + 1) * 24 ≤ 140737488355328; omega, by show m + 1 ≤ 9223372036854775807; omega⟩, (k - 1, r4, ds ++ [[inTop [109, 97, 105, 108]]]), ⟨by dsimp only; omega, by dsimp only; omega, by dsimp only; omega, by dsimp only; omega, h5 _, hall _ (by simp)⟩, by dsimp only; omega, (Sbs.cut 6 rfl).trans (Sbs.mk rfl (hrows (by subst hΩ; rfl) (by subst hΩ; rfl)) ⟨rfl, rfl, rfl, decI hΩ (by omega) (by omega), rfl, trivial⟩)⟩
        · refine ⟨⟨by subst hΩ; exact ⟨rfl, Nat.le_refl _⟩⟩, ⟨rfl, okAll rfl, by show (m + 1) * 24 ≤ 140737488355328; omega, by show m + 1 ≤ 9223372036854775807; omega⟩, (k - 1, r4, ds ++ [[⟨t1n, ⟨t1a, t1b, t1c⟩, ⟨t1d, t1e, t1f⟩⟩]]), ⟨by dsimp only; omega, by dsimp only; omega, by dsimp only; omega, by dsimp only; omega, h5 _, hall _ (by simp)⟩, by dsimp only; omega, (Sbs.cut 6 rfl).trans (Sbs.mk rfl (hrows (by subst hΩ; rfl) (by subst hΩ; rfl)) ⟨rfl, rfl, rfl, decI hΩ (by omega) (by omega), rfl, trivial⟩)⟩
    · have hk := gtI_f hΩ hk
      refine call_dr false hΩ 3 (hC _ _ (by omega) (by omega) (by omega)) rfl rfl rfl (fun r5 x r5a r5b ⟨c3, hx⟩ => ?_)
      subst hx
      cbv
      refine br (fun hc3 => ?_) (fun hc3 => ?_) <;> cbv
      · refine ⟨VC_lent htab hΩ hmo [0, 1] [2, 3, 4] [5, 6, 7] [2, 4, 5] [3] (by kernel_rfl) ?_⟩
        cbv
        intro vs
        cbv
        refine call_dr false hΩ 3 (hl1Term _ (by omega) (by omega)) rfl rfl rfl (fun r6 x r6a r6b ⟨t3, hx⟩ => ?_)
        obtain ⟨t3n, ⟨t3a, t3b, t3c⟩, ⟨t3d, t3e, t3f⟩⟩ := t3
        subst hx
        cbv
        exact ⟨⟨Nat.le_refl _, fun y hy => List.all_eq_true.1 (show List.all _ noOwn = true from rfl) y hy, okAll rfl, by decide, by decide⟩, ⟨rfl, Nat.le_refl _⟩, ⟨rfl, by show m ≤ (F ds).length; omega⟩, ⟨rfl, by subst hΩ; exact Nat.le_refl _⟩, _, _,
          fit_pack (o := ⟨nm, ⟨Ω.ar .add .i64 1 va, 0, 0⟩, Ω.ar .add .i64 1 sz, [pn], ds, [⟨t3n, ⟨t3a, t3b, t3c⟩, ⟨t3d, t3e, t3f⟩⟩]⟩) (.inl (by subst hΩ; rfl)) (.inl hFdi) (.inl (by subst hΩ; rfl)), .same, ⟨r6, by omega, by omega, rfl, _, rfl, ⟨Nat.le_of_ble_eq_true rfl, hds, Nat.le_of_ble_eq_true rfl, i6⟩⟩, rfl⟩
      · exact ⟨⟨rfl, Nat.le_refl _⟩, ⟨rfl, by show m ≤ (F ds).length; omega⟩, _, _,
          fit_pack (o := ⟨nm, ⟨Ω.ar .add .i64 1 va, 0, 0⟩, Ω.ar .add .i64 1 sz, [pn], ds, []⟩) (.inl (by subst hΩ; rfl)) (.inl hFdi) (.inr ⟨rfl, rfl⟩), .same, ⟨r5, by omega, by omega, rfl, _, rfl, ⟨Nat.le_of_ble_eq_true rfl, hds, Nat.le_of_ble_eq_true rfl, i6⟩⟩, rfl⟩
  · refine call_pick (ns := [0, 0, 1, 1, 2]) hΩ (hP _ _ (by omega) (by omega) (Nat.zero_lt_succ _) (Nat.le_of_ble_eq_true rfl)) rfl rfl rfl rfl (by decide) (fun q5 n q5a q5b hn => ?_)
    replace hn : 0 ≤ n ∧ n ≤ 2 := by simp at hn; omega
    cbv
    obtain ⟨F, hF⟩ : ∃ F : List (List Trm) → List A, F = fun ds => ds.map (encTs true) := ⟨_, rfl⟩
    have hF0 : F [] = [] := by rw [hF]; rfl
    have hFl : ∀ ds, (F ds).length = ds.length := fun ds => by rw [hF]; exact List.length_map _
    have hFs : ∀ (ds : List (List Trm)) (ts : List Trm), Ω.app (Ω.take ds.length (F ds)) [.sl true 7 (ts.map Trm.enc)] = F (ds ++ [ts]) := fun ds ts => by
      subst hΩ; rw [hF]; show List.take ds.length (List.map (encTs true) ds) ++ _ = List.map (encTs true) (ds ++ [ts])
      rw [List.map_append, List.take_of_length_le (by simp)]; rfl
    have hFd : ∀ ds : List (List Trm), Ω.take ds.length (F ds) = ds.map (encTs true) := fun ds => by subst hΩ; rw [hF]; exact List.take_of_length_le (by simp)
    clear hF
    refine loopX htab hΩ (fun i : Int × Int × List (List Trm) => ⟨[(0, .pt 0 0 0), (2, .pt 1 0 0), (3, .pt 2 0 0), (4, i64 i.1), (63, .pt 0 0 0)], 63, [some ⟨2, [.agg [.sl false 1 bs, i64 i.2.1]], true⟩, some ⟨8, [.agg [str [], i64 0, i64 0, i64 0, i64 0, .nil, .nil, .nil]], true⟩, some ⟨8, [.agg [str nm, i64 (Ω.ar .add .i64 1 va), i64 0, i64 0, i64 (Ω.ar .add .i64 1 sz), .vw 4 0 0, .vw 5 0 i.2.2.length, .nil]], true⟩, none, some ⟨1, [], false⟩, some ⟨1, F i.2.2, false⟩]⟩) (fun i => 0 ≤ i.1 ∧ i.1 ≤ 2 ∧ p ≤ i.2.1 ∧ i.2.1 + 20 * i.1 ≤ p + 46 ∧ (i.2.2.length : Int) + i.1 ≤ 2 ∧ ∀ l ∈ i.2.2, l.length ≤ 8) (fun i => i.1.toNat) (n, q5, [])
      ⟨by dsimp only; omega, by dsimp only; omega, by dsimp only; omega, by dsimp only; omega, by show ((0 : Nat) : Int) + n ≤ 2; omega, by simp⟩ ((Sbs.drop (r := 3) rfl).trans ((Sbs.nilCell (r := 2) (j := 0) (q := 5) (n := 1) rfl rfl rfl).trans ((Sbs.nilCell (r := 2) (j := 0) (q := 6) (n := 1) rfl rfl rfl).trans (Sbs.mk rfl (by show _ = [_, _, _, _, _, some (Row.mk 1 (F []) false)]; rw [hF0]; rfl) ⟨rfl, rfl, rfl, rfl, rfl, trivial⟩)))) ?_
    rintro ⟨k, q, ds⟩ ⟨i1, i2, i3, i4, i5, i6⟩
    dsimp only at i1 i2 i3 i4 i5 i6
    have hFli := hFl ds
    have hFsi := hFs ds
    obtain ⟨m, hm⟩ : ∃ m, ds.length = m := ⟨_, rfl⟩
    have hrows : ∀ {R0 R1 R4 : Option Row} {a0 a1 a2 a3 a4 a5 a7 : A} {l : Nat} {X : List A} {ts : List Trm}, X = ts.map Trm.enc → l = m + 1 → [R0, R1, some (Row.mk 8 [.agg [a0, a1, a2, a3, a4, a5, .vw 5 0 l, a7]] true), none, R4, some (Row.mk 1 (Ω.app (Ω.take m (F ds)) [.sl true 7 X]) false)] =
        [R0, R1, some (Row.mk 8 [.agg [a0, a1, a2, a3, a4, a5, .vw 5 0 (ds ++ [ts]).length, a7]] true), none, R4, some (Row.mk 1 (F (ds ++ [ts])) false)] := fun {R0 R1 R4 a0 a1 a2 a3 a4 a5 a7 l X ts} h1 h2 => by
      rw [h1, h2, ← hm, hFsi, List.length_append]; rfl
    have hall : ∀ ts : List Trm, ts.length ≤ 8 → ∀ l ∈ ds ++ [ts], l.length ≤ 8 := fun ts h l hl => by
      rcases List.mem_append.1 hl with h1 | h1
      · exact i6 l h1
      · rw [List.mem_singleton.1 h1]; exact h
    rw [hm] at hFli hFsi i5 ⊢
    have hm2 : m ≤ 2 := by omega
    have hds : ds.length ≤ 8 := by omega
    have hFdi : A.sl true 1 (Ω.take m (F ds)) = .sl true 1 (ds.map (encTs true)) := by rw [← hm, hFd]
    have h5 : ∀ ts : List Trm, ((ds ++ [ts]).length : Int) + (k - 1) ≤ 2 := fun ts => by rw [List.length_append, hm, List.length_singleton]; omega
    cbv
    refine br (fun hk => ?_) (fun hk => ?_) <;> cbv
    · have hk := gtI_t hΩ hk
      refine call_dr false hΩ 3 (hl1Term _ (by omega) (by omega)) rfl rfl rfl (fun r1 x r1a r1b ⟨t1, hx⟩ => ?_)
      obtain ⟨t1n, ⟨t1a, t1b, t1c⟩, ⟨t1d, t1e, t1f⟩⟩ := t1
      subst hx
      cbv
      refine call_dr false hΩ 3 (hC _ _ (by omega) (by omega) (by omega)) rfl rfl rfl (fun r2 x r2a r2b ⟨c1, hx⟩ => ?_)
      subst hx
      cbv
      refine br (fun hc1 => ?_) (fun hc1 => ?_) <;> cbv
      · refine call_dr false hΩ 3 (hl1Term _ (by omega) (by omega)) rfl rfl rfl (fun r3 x r3a r3b ⟨t2, hx⟩ => ?_)
        obtain ⟨t2n, ⟨t2a, t2b, t2c⟩, ⟨t2d, t2e, t2f⟩⟩ := t2
        subst hx
        cbv
        refine ⟨⟨rfl, okAll rfl, by show (1 + 1) * 64 ≤ 140737488355328; omega, by show 1 + 1 ≤ 9223372036854775807; omega⟩, ?_⟩
        refine call_dr false hΩ 3 (hC _ _ (by omega) (by omega) (by omega)) rfl rfl rfl (fun r4 x r4a r4b ⟨c2, hx⟩ => ?_)
        subst hx
        cbv
        refine br (fun hc2 => ?_) (fun hc2 => ?_) <;> cbv
        · refine call_pure hΩ 3 (hA _) rfl (fits _) rfl rfl ?_
          cbv
          refine ⟨⟨by subst hΩ; exact ⟨Int.le_refl _, Int.ofNat_lt.2 (Nat.zero_lt_succ _)⟩⟩, ⟨by subst hΩ; exact ⟨show 0 + 0 < _ from Nat.zero_lt_succ _, fun z hz => List.all_eq_true.1 (show List.all _ (isAggN 7) = true from rfl) z hz⟩⟩, ⟨by subst hΩ; exact ⟨rfl, Nat.le_refl _⟩⟩, ⟨rfl, okAll rfl, by show (m + 1) * 24 ≤ 140737488355328; omega, by show m + 1 ≤ 9223372036854775807; omega⟩, (k - 1, r4, ds ++ [[inTop [109, 97, 105, 108], ⟨t2n, ⟨t2a, t2b, t2c⟩, ⟨t2d, t2e, t2f⟩⟩]]), ⟨by dsimp only; omega, by dsimp only; omega, by dsimp only; omega, by dsimp only; omega, h5 _, hall _ (by simp)⟩, by dsimp only; omega, (Sbs.cut 6 rfl).trans (Sbs.mk rfl (hrows (by subst hΩ; rfl) (by subst hΩ; rfl)) ⟨rfl, rfl, rfl, decI hΩ (by omega) (by omega), rfl, trivial⟩)⟩
        · refine ⟨⟨by subst hΩ; exact ⟨rfl, Nat.le_refl _⟩⟩, ⟨rfl, okAll rfl, by show (m + 1) * 24 ≤ 140737488355328; omega, by show m + 1 ≤ 9223372036854775807; omega⟩, (k - 1, r4, ds ++ [[⟨t1n, ⟨t1a, t1b, t1c⟩, ⟨t1d, t1e, t1f⟩⟩, ⟨t2n, ⟨t2a, t2b, t2c⟩, ⟨t2d, t2e, t2f⟩⟩]]), ⟨by dsimp only; omega, by dsimp only; omega, by dsimp only; omega, by dsimp only; omega, h5 _, hall _ (by simp)⟩, by dsimp only; omega, (Sbs.cut 6 rfl).trans (Sbs.mk rfl (hrows (by subst hΩ; rfl) (by subst hΩ; rfl)) ⟨rfl, rfl, rfl, decI hΩ (by omega) (by omega), rfl, trivial⟩)⟩
      · refine call_dr false hΩ 3 (hC _ _ (by omega) (by omega) (by omega)) rfl rfl rfl (fun r4 x r4a r4b ⟨c2, hx⟩ => ?_)
        subst hx
        cbv
        refine br (fun hc2 => ?_) (fun hc2 => ?_) <;> cbv
        · refine call_pure hΩ 3 (hA _) rfl (fits _) rfl rfl ?_
          cbv
          refine ⟨⟨by subst hΩ; exact ⟨Int.le_refl _, Int.ofNat_lt.2 (Nat.zero_lt_succ _)⟩⟩, ⟨by subst hΩ; exact ⟨show 0 + 0 < _ from Nat.zero_lt_succ _, fun z hz => List.all_eq_true.1 (show List.all _ (isAggN 7) = true from rfl) z hz⟩⟩, ⟨by subst hΩ; exact ⟨rfl, Nat.le_refl _⟩⟩, ⟨rfl, okAll rfl, by show (m + 1) * 24 ≤ 140737488355328; omega, by show m + 1 ≤ 9223372036854775807; omega⟩, (k - 1, r4, ds ++ [[inTop [109, 97, 105, 108]]]), ⟨by dsimp only; omega, by dsimp only; omega, by dsimp only; omega, by dsimp only; omega, h5 _, hall _ (by simp)⟩, by dsimp only; omega, (Sbs.cut 6 rfl).trans (Sbs.mk rfl (hrows (by subst hΩ; rfl) (by subst hΩ; rfl)) ⟨rfl, rfl, rfl, decI hΩ (by omega) (by omega), rfl, trivial⟩)⟩
        · refine ⟨⟨by subst hΩ; exact ⟨rfl, Nat.le_refl _⟩⟩, ⟨rfl, okAll rfl, by show (m + 1) * 24 ≤ 140737488355328; omega, by show m + 1 ≤ 9223372036854775807; omega⟩, (k - 1, r4, ds ++ [[⟨t1n, ⟨t1a, t1b, t1c⟩, ⟨t1d, t1e, t1f⟩⟩]]), ⟨by dsimp only; omega, by dsimp only; omega, by dsimp only; omega, by dsimp only; omega, h5 _, hall _ (by simp)⟩, by dsimp only; omega, (Sbs.cut 6 rfl).trans (Sbs.mk rfl (hrows (by subst hΩ; rfl) (by subst hΩ; rfl)) ⟨rfl, rfl, rfl, decI hΩ (by omega) (by omega), rfl, trivial⟩)⟩
    · have hk := gtI_f hΩ hk
      refine call_dr false hΩ 3 (hC _ _ (by omega) (by omega) (by omega)) rfl rfl rfl (fun r5 x r5a r5b ⟨c3, hx⟩ => ?_)
      subst hx
      cbv
      refine br (fun hc3 => ?_) (fun hc3 => ?_) <;> cbv
      · refine ⟨VC_lent htab hΩ hmo [0, 1] [2, 3, 4] [5, 6, 7] [2, 4, 5] [3] (by kernel_rfl) ?_⟩
        cbv
        intro vs
        cbv
        refine call_dr false hΩ 3 (hl1Term _ (by omega) (by omega)) rfl rfl rfl (fun r6 x r6a r6b ⟨t3, hx⟩ => ?_)
        obtain ⟨t3n, ⟨t3a, t3b, t3c⟩, ⟨t3d, t3e, t3f⟩⟩ := t3
        subst hx
        cbv
        exact ⟨⟨Nat.le_refl _, fun y hy => List.all_eq_true.1 (show List.all _ noOwn = true from rfl) y hy, okAll rfl, by decide, by decide⟩, ⟨rfl, Nat.le_refl _⟩, ⟨rfl, by show m ≤ (F ds).length; omega⟩, ⟨rfl, by subst hΩ; exact Nat.le_refl _⟩, _, _,
          fit_pack (o := ⟨nm, ⟨Ω.ar .add .i64 1 va, 0, 0⟩, Ω.ar .add .i64 1 sz, [], ds, [⟨t3n, ⟨t3a, t3b, t3c⟩, ⟨t3d, t3e, t3f⟩⟩]⟩) (.inl (by subst hΩ; rfl)) (.inl hFdi) (.inl (by subst hΩ; rfl)), .same, ⟨r6, by omega, by omega, rfl, _, rfl, ⟨Nat.le_of_ble_eq_true rfl, hds, Nat.le_of_ble_eq_true rfl, i6⟩⟩, rfl⟩
      · exact ⟨⟨rfl, Nat.le_refl _⟩, ⟨rfl, by show m ≤ (F ds).length; omega⟩, _, _,
          fit_pack (o := ⟨nm, ⟨Ω.ar .add .i64 1 va, 0, 0⟩, Ω.ar .add .i64 1 sz, [], ds, []⟩) (.inl (by subst hΩ; rfl)) (.inl hFdi) (.inr ⟨rfl, rfl⟩), .same, ⟨r5, by omega, by omega, rfl, _, rfl, ⟨Nat.le_of_ble_eq_true rfl, hds, Nat.le_of_ble_eq_true rfl, i6⟩⟩, rfl⟩

theorem fitL_snoc {k : Nat} {x y : A} (h2 : fitA k x y) : ∀ {xs ys : List A}, fitA.fitL k xs ys → fitA.fitL k (xs ++ [x]) (ys ++ [y])
  | [], [], _ => ⟨h2, trivial⟩
  | a :: xs, b :: ys, h => ⟨h.1, fitL_snoc h2 h.2⟩
theorem tkl {Ω : Opq} (hΩ : Ω = std) (xs : List A) : Ω.take (Ω.len xs) xs = xs := by subst hΩ; exact List.take_length
theorem tka {Ω : Opq} (hΩ : Ω = std) (xs ys : List A) : Ω.take (Ω.plus (Ω.len xs) (Ω.len ys)) (Ω.app (Ω.take (Ω.len xs) xs) ys) = xs ++ ys := by
  subst hΩ; show List.take (xs.length + ys.length) (List.take xs.length xs ++ ys) = _
  rw [List.take_length, List.take_of_length_le (by simp)]
theorem d_l2BentPack {bs : List A} (hb : Src bs) (p : Int) (h0 : 0 ≤ p) (h1 : p + 100 ≤ 1099511627776) : XCtr PP n_spec_l2BentPack [src bs p] (DR bs p 100 [] fun x => ∃ o : Pck, x = o.enc true ∧ o.Tiny2) := by
  obtain ⟨Ω, hΩ⟩ : ∃ Ω, Ω = std := ⟨_, rfl⟩
  have hN := fun p n a b c => d_l1Next hb p n a b c
  have hP := fun p ns a b c d => d_l1Pick hb p ns a b c d
  have hl2Pack := fun p a b => d_l2Pack hb p a b
  have hl1BentName := fun p a b => d_l1BentName hb p a b
  have hl1BentVersion := fun p a b => d_l1BentVersion hb p a b
  have hl1BentTerm := fun p a b => d_l1BentTerm hb p a b
  have htab := tab
  have hmo := hmo
  refine XCtr.walkO tab hΩ 3 fn_spec_l2BentPack rfl rfl ?_
  generalize PP = P at *
  cbv
  refine call_dr false hΩ 3 (hl2Pack _ (by omega) (by omega)) rfl rfl rfl (fun q1 x q1a q1b ⟨o, hx, ht⟩ => ?_)
  subst hx
  obtain ⟨ps, ds, es, hen, hps, hds, hes⟩ := enc_own o
  have hpl : ps.length = o.p.length := by rw [hps, List.length_map]
  have hdl : ds.length = o.d.length := by rw [hds, List.length_map]
  have hel : es.length = o.b.length := by rw [hes, List.length_map]
  have hp8 := ht.p
  have hd8 := ht.d
  have hb8 := ht.b
  have he8 := ht.e
  have he16 : ∀ l ∈ o.d, l.length ≤ 16 := fun l hl => by have := he8 l hl; omega
  have hP2 : ∀ a b, A.sl true 1 (Ω.take (Ω.plus (Ω.len ps) (Ω.len [str a, str b])) (Ω.app (Ω.take (Ω.len ps) ps) [str a, str b])) = .sl true 1 ((o.p ++ [a, b]).map str) := fun a b => by rw [tka hΩ, hps, List.map_append]; rfl
  have hD2 : ∀ (X : A) (l : List Trm), X = encTs true l → A.sl true 1 (Ω.take (Ω.plus (Ω.len ds) (Ω.len [X])) (Ω.app (Ω.take (Ω.len ds) ds) [X])) = .sl true 1 ((o.d ++ [l]).map (encTs true)) := fun X l h => by rw [tka hΩ, hds, List.map_append, h]; rfl
  have hD3 : fitA 2 (A.sl true 1 (Ω.take (Ω.plus (Ω.len ds) (Ω.len [.nil])) (Ω.app (Ω.take (Ω.len ds) ds) [.nil]))) (.sl true 1 ((o.d ++ [[]]).map (encTs true))) := by
    rw [tka hΩ, hds, List.map_append]
    exact ⟨rfl, rfl, fitL_snoc (k := 1) (x := .nil) (y := encTs true []) rfl (fits _)⟩
  have hE2 : ∀ (t : Trm), A.sl true 7 (Ω.take (Ω.plus (Ω.len es) (Ω.len [t.enc])) (Ω.app (Ω.take (Ω.len es) es) [t.enc])) = .sl true 7 ((o.b ++ [t]).map Trm.enc) := fun t => by rw [tka hΩ, hes, List.map_append]; rfl
  have he17 : ∀ l : List Trm, l.length ≤ 16 → ∀ l' ∈ o.d ++ [l], l'.length ≤ 16 := fun l h l' hl => by
    rcases List.mem_append.1 hl with h1 | h1
    · exact he16 _ h1
    · rw [List.mem_singleton.1 h1]; exact h
  have hXp : A.sl true 1 (Ω.take (Ω.len ps) ps) = .sl true 1 (o.p.map str) := by rw [tkl hΩ, hps]
  have hXd : A.sl true 1 (Ω.take (Ω.len ds) ds) = .sl true 1 (o.d.map (encTs true)) := by rw [tkl hΩ, hds]
  have hXe : A.sl true 7 (Ω.take (Ω.len es) es) = .sl true 7 (o.b.map Trm.enc) := by rw [tkl hΩ, hes]
  have hlp : Ω.len ps = o.p.length := by subst hΩ; exact hpl
  have hld : Ω.len ds = o.d.length := by subst hΩ; exact hdl
  have hle : Ω.len es = o.b.length := by subst hΩ; exact hel
  rw [hen]
  cbv
  refine call_dr false hΩ 3 (hN _ 24 (by omega) (by omega) (by omega)) rfl rfl rfl (fun q2 x q2a q2b ⟨sw, hx, hsw⟩ => ?_)
  subst hx
  cbv
  refine br (fun hs => ?_) (fun hs => ?_) <;> cbv
  · refine call_dr false hΩ 3 (hl1BentName _ (by omega) (by omega)) rfl rfl rfl (fun q3 x q3a q3b ⟨nm, hx⟩ => ?_)
    subst hx
    cbv
    exact ⟨⟨rfl, by subst hΩ; exact Nat.le_refl _⟩, ⟨rfl, by subst hΩ; exact Nat.le_refl _⟩, ⟨rfl, by subst hΩ; exact Nat.le_refl _⟩, _, _, fit_pack (o := ⟨nm, o.v, o.s, o.p, o.d, o.b⟩) (.inl hXp) (.inl hXd) (.inl hXe), .same, ⟨q3, by omega, by omega, rfl, _, rfl, ⟨by show o.p.length ≤ 16; omega, by show o.d.length ≤ 16; omega, by show o.b.length ≤ 16; omega, he16⟩⟩, rfl⟩
  refine br (fun hs => ?_) (fun hs => ?_) <;> cbv
  · refine call_dr false hΩ 3 (hl1BentVersion _ (by omega) (by omega)) rfl rfl rfl (fun q3 x q3a q3b ⟨v, hx⟩ => ?_)
    obtain ⟨va, vb, vc⟩ := v
    subst hx
    cbv
    exact ⟨⟨rfl, by subst hΩ; exact Nat.le_refl _⟩, ⟨rfl, by subst hΩ; exact Nat.le_refl _⟩, ⟨rfl, by subst hΩ; exact Nat.le_refl _⟩, _, _, fit_pack (o := ⟨o.n, ⟨va, vb, vc⟩, o.s, o.p, o.d, o.b⟩) (.inl hXp) (.inl hXd) (.inl hXe), .same, ⟨q3, by omega, by omega, rfl, _, rfl, ⟨by show o.p.length ≤ 16; omega, by show o.d.length ≤ 16; omega, by show o.b.length ≤ 16; omega, he16⟩⟩, rfl⟩
  refine br (fun hs => ?_) (fun hs => ?_) <;> cbv
  · refine call_pick (ns := [0, 200, 201]) hΩ (hP _ _ (by omega) (by omega) (Nat.zero_lt_succ _) (Nat.le_of_ble_eq_true rfl)) rfl rfl rfl rfl (by decide) (fun q3 sz q3a q3b hsz => ?_)
    cbv
    exact ⟨⟨rfl, by subst hΩ; exact Nat.le_refl _⟩, ⟨rfl, by subst hΩ; exact Nat.le_refl _⟩, ⟨rfl, by subst hΩ; exact Nat.le_refl _⟩, _, _, fit_pack (o := ⟨o.n, o.v, sz, o.p, o.d, o.b⟩) (.inl hXp) (.inl hXd) (.inl hXe), .same, ⟨q3, by omega, by omega, rfl, _, rfl, ⟨by show o.p.length ≤ 16; omega, by show o.d.length ≤ 16; omega, by show o.b.length ≤ 16; omega, he16⟩⟩, rfl⟩
  refine br (fun hs => ?_) (fun hs => ?_) <;> cbv
  · refine ⟨VC_lent htab hΩ hmo [0, 1, 4, 5] [2, 3, 6] [7, 8, 9] [5, 2, 3, 4] [3, 27] (by kernel_rfl) ?_⟩
    cbv
    intro vs
    cbv
    refine call_dr false hΩ 3 (hl1BentName _ (by omega) (by omega)) rfl rfl rfl (fun q3 x q3a q3b ⟨nm, hx⟩ => ?_)
    subst hx
    cbv
    exact ⟨⟨rfl, okAll rfl, by show (Ω.len ps + 2) * 16 ≤ _; rw [hlp]; omega, by show Ω.len ps + 2 ≤ 9223372036854775807; rw [hlp]; omega⟩, ⟨rfl, by subst hΩ; show ps.length + _ ≤ (List.take ps.length ps ++ _).length; rw [List.take_length, List.length_append]; exact Nat.le_refl _⟩, ⟨rfl, by subst hΩ; exact Nat.le_refl _⟩, ⟨rfl, by subst hΩ; exact Nat.le_refl _⟩, _, _, fit_pack (o := ⟨o.n, o.v, o.s, o.p ++ [nm, o.n], o.d, o.b⟩) (.inl (hP2 nm o.n)) (.inl hXd) (.inl hXe), .same, ⟨q3, by omega, by omega, rfl, _, rfl, ⟨by show (o.p ++ [nm, o.n]).length ≤ 16; simp; omega, by show o.d.length ≤ 16; omega, by show o.b.length ≤ 16; omega, he16⟩⟩, rfl⟩
  refine br (fun hs => ?_) (fun hs => ?_) <;> cbv
  · exact ⟨⟨rfl, okAll rfl, by show (Ω.len ds + 1) * 24 ≤ _; rw [hld]; omega, by show Ω.len ds + 1 ≤ 9223372036854775807; rw [hld]; omega⟩, ⟨rfl, by subst hΩ; exact Nat.le_refl _⟩, ⟨rfl, by subst hΩ; show ds.length + _ ≤ (List.take ds.length ds ++ _).length; rw [List.take_length, List.length_append]; exact Nat.le_refl _⟩, ⟨rfl, by subst hΩ; exact Nat.le_refl _⟩, _, _, fit_pack (o := ⟨o.n, o.v, o.s, o.p, o.d ++ [[]], o.b⟩) (.inl hXp) (.inr (.inr hD3)) (.inl hXe), .same, ⟨q2, by omega, by omega, rfl, _, rfl, ⟨by show o.p.length ≤ 16; omega, by show (o.d ++ [[]]).length ≤ 16; simp; omega, by show o.b.length ≤ 16; omega, he17 [] (by simp)⟩⟩, rfl⟩
  refine br (fun hs => ?_) (fun hs => ?_) <;> cbv
  · refine ⟨VC_lent htab hΩ hmo [0, 1, 4] [2, 3, 5, 6, 7] [8, 9, 10] [5, 2, 3, 4] [3, 45] (by kernel_rfl) ?_⟩
    cbv
    intro vs
    cbv
    refine call_dr false hΩ 3 (hl1BentTerm _ (by omega) (by omega)) rfl rfl rfl (fun q3 x q3a q3b ⟨t1, hx⟩ => ?_)
    obtain ⟨t1n, ⟨t1a, t1b, t1c⟩, ⟨t1d, t1e, t1f⟩⟩ := t1
    subst hx
    cbv
    refine call_dr false hΩ 3 (hl1BentTerm _ (by omega) (by omega)) rfl rfl rfl (fun q4 x q4a q4b ⟨t2, hx⟩ => ?_)
    obtain ⟨t2n, ⟨t2a, t2b, t2c⟩, ⟨t2d, t2e, t2f⟩⟩ := t2
    subst hx
    cbv
    exact ⟨⟨rfl, by subst hΩ; exact Nat.le_refl _⟩, ⟨rfl, okAll rfl, by show (Ω.len ds + 1) * 24 ≤ _; rw [hld]; omega, by show Ω.len ds + 1 ≤ 9223372036854775807; rw [hld]; omega⟩, ⟨rfl, by subst hΩ; exact Nat.le_refl _⟩, ⟨rfl, by subst hΩ; show ds.length + _ ≤ (List.take ds.length ds ++ _).length; rw [List.take_length, List.length_append]; exact Nat.le_refl _⟩, ⟨rfl, by subst hΩ; exact Nat.le_refl _⟩, _, _, fit_pack (o := ⟨o.n, o.v, o.s, o.p, o.d ++ [[(⟨t1n, ⟨t1a, t1b, t1c⟩, ⟨t1d, t1e, t1f⟩⟩ : Trm), (⟨t2n, ⟨t2a, t2b, t2c⟩, ⟨t2d, t2e, t2f⟩⟩ : Trm)]], o.b⟩) (.inl hXp) (.inl (hD2 _ [(⟨t1n, ⟨t1a, t1b, t1c⟩, ⟨t1d, t1e, t1f⟩⟩ : Trm), (⟨t2n, ⟨t2a, t2b, t2c⟩, ⟨t2d, t2e, t2f⟩⟩ : Trm)] (by subst hΩ; rfl))) (.inl hXe), .same, ⟨q4, by omega, by omega, rfl, _, rfl, ⟨by show o.p.length ≤ 16; omega, by show (o.d ++ [_]).length ≤ 16; simp; omega, by show o.b.length ≤ 16; omega, he17 _ (Nat.le_of_ble_eq_true rfl)⟩⟩, rfl⟩
  refine br (fun hs => ?_) (fun hs => ?_) <;> cbv
  · refine ⟨VC_lent htab hΩ hmo [0, 1] [2, 3, 4] [5, 6, 7] [5, 2, 3, 4] [3, 57] (by kernel_rfl) ?_⟩
    cbv
    intro vs
    cbv
    refine call_dr false hΩ 3 (hl1BentTerm _ (by omega) (by omega)) rfl rfl rfl (fun q3 x q3a q3b ⟨t1, hx⟩ => ?_)
    obtain ⟨t1n, ⟨t1a, t1b, t1c⟩, ⟨t1d, t1e, t1f⟩⟩ := t1
    subst hx
    cbv
    exact ⟨⟨rfl, okAll rfl, by show (Ω.len es + 1) * 64 ≤ _; rw [hle]; omega, by show Ω.len es + 1 ≤ 9223372036854775807; rw [hle]; omega⟩, ⟨rfl, by subst hΩ; exact Nat.le_refl _⟩, ⟨rfl, by subst hΩ; exact Nat.le_refl _⟩, ⟨rfl, by subst hΩ; show es.length + _ ≤ (List.take es.length es ++ _).length; rw [List.take_length, List.length_append]; exact Nat.le_refl _⟩, _, _, fit_pack (o := ⟨o.n, o.v, o.s, o.p, o.d, o.b ++ [(⟨t1n, ⟨t1a, t1b, t1c⟩, ⟨t1d, t1e, t1f⟩⟩ : Trm)]⟩) (.inl hXp) (.inl hXd) (.inl (hE2 (⟨t1n, ⟨t1a, t1b, t1c⟩, ⟨t1d, t1e, t1f⟩⟩ : Trm))), .same, ⟨q3, by omega, by omega, rfl, _, rfl, ⟨by show o.p.length ≤ 16; omega, by show o.d.length ≤ 16; omega, by show (o.b ++ [_]).length ≤ 16; simp; omega, he16⟩⟩, rfl⟩
  refine br (fun hs => ?_) (fun hs => ?_) <;> cbv
  · exact ⟨⟨rfl, by decide, by decide, by decide⟩, ⟨rfl, by subst hΩ; exact Nat.le_refl _⟩, ⟨rfl, by subst hΩ; exact Nat.le_refl _⟩, ⟨rfl, by subst hΩ; exact Nat.le_refl _⟩, _, _, fit_pack (o := ⟨o.n, o.v, o.s, o.p, o.d, (List.replicate 5 Trm.zero)⟩) (.inl hXp) (.inl hXd) (.inl (by subst hΩ; rfl)), .same, ⟨q2, by omega, by omega, rfl, _, rfl, ⟨by show o.p.length ≤ 16; omega, by show o.d.length ≤ 16; omega, Nat.le_of_ble_eq_true rfl, he16⟩⟩, rfl⟩
  refine br (fun hs => ?_) (fun hs => ?_) <;> cbv
  · refine ⟨VC_lent htab hΩ hmo [0, 1] [2, 3] [4, 5, 6] [5, 2, 3, 4] [3, 70] (by kernel_rfl) ?_⟩
    cbv
    intro vs
    cbv
    exact ⟨⟨rfl, by decide, by decide, by decide⟩, ⟨rfl, by subst hΩ; exact Nat.le_refl _⟩, ⟨rfl, okAll rfl, by show (Ω.len ds + 1) * 24 ≤ _; rw [hld]; omega, by show Ω.len ds + 1 ≤ 9223372036854775807; rw [hld]; omega⟩, ⟨rfl, by subst hΩ; exact Nat.le_refl _⟩, ⟨rfl, by subst hΩ; show ds.length + _ ≤ (List.take ds.length ds ++ _).length; rw [List.take_length, List.length_append]; exact Nat.le_refl _⟩, ⟨rfl, by subst hΩ; exact Nat.le_refl _⟩, _, _, fit_pack (o := ⟨o.n, o.v, o.s, o.p, o.d ++ [(List.replicate 5 Trm.zero)], o.b⟩) (.inl hXp) (.inl (hD2 _ (List.replicate 5 Trm.zero) (by subst hΩ; rfl))) (.inl hXe), .same, ⟨q2, by omega, by omega, rfl, _, rfl, ⟨by show o.p.length ≤ 16; omega, by show (o.d ++ [_]).length ≤ 16; simp; omega, by show o.b.length ≤ 16; omega, he17 _ (Nat.le_of_ble_eq_true rfl)⟩⟩, rfl⟩
  exact ⟨⟨rfl, by subst hΩ; exact Nat.le_refl _⟩, ⟨rfl, by subst hΩ; exact Nat.le_refl _⟩, ⟨rfl, by subst hΩ; exact Nat.le_refl _⟩, _, _, fit_pack (o := o) (.inl hXp) (.inl hXd) (.inl hXe), .same, ⟨q2, by omega, by omega, rfl, _, rfl, ⟨by show o.p.length ≤ 16; omega, by show o.d.length ≤ 16; omega, by show o.b.length ≤ 16; omega, he16⟩⟩, rfl⟩
end Go.Proofs.YtomfmdfamlmfiaaGreat

/- Walks: sizes of packages. Plain theorems. -/
set_option linter.unusedVariables false
set_option linter.unusedSimpArgs false
namespace Go.Proofs.YtomfmdfamlmfiaaGreat
open Go Go.Fw
set_option maxRecDepth 100000
def szN (n : Nat) (l : Int) : Int := if l - n < 0 then -1 else l - n
def szT (t : Trm) (l : Int) : Int := szN t.n.length l
def costS {α : Type} (g : α → Nat) (cs : List α) : Nat := cs.length + (cs.map g).sum
def cT (t : Trm) : Nat := t.n.length
def cB (s : List UInt8) : Nat := s.length
def cP (o : Pck) : Nat := o.n.length + (costS cB o.p + (costS (costS cT) o.d + costS cT o.b))
end Go.Proofs.YtomfmdfamlmfiaaGreat

/- Walks: draws of catalogs. Plain theorems. -/
set_option linter.unusedVariables false
set_option linter.unusedSimpArgs false
namespace Go.Proofs.YtomfmdfamlmfiaaGreat
open Go Go.Fw
set_option maxRecDepth 100000
theorem frz_encP (o : Pck) : fzA true (o.enc true) = o.enc false := frz_Pck o
theorem encF (o : Pck) : frz (o.enc false) = o.enc false := by
  show frz (.agg _) = A.agg _
  rw [frz_agg]
  have h1 : (o.p.map str).map frz = o.p.map str := by rw [List.map_map]; exact List.map_congr_left fun c _ => rfl
  have h2 : (o.d.map (encTs false)).map frz = o.d.map (encTs false) := by
    rw [List.map_map]
    refine List.map_congr_left fun c _ => ?_
    show frz (A.sl false 7 _) = A.sl false 7 _
    rw [frz_sl, List.map_map]; rfl
  have h3 : (o.b.map Trm.enc).map frz = o.b.map Trm.enc := by rw [List.map_map]; exact List.map_congr_left fun c _ => rfl
  simp only [Pck.cells, List.map_cons, List.map_nil, frz_sl, h1, h2, h3]
  rfl
theorem fitL_rep {k : Nat} {x y : A} (h : fitA k x y) : ∀ n : Nat, fitA.fitL k (List.replicate n x) (List.replicate n y)
  | 0 => trivial
  | n + 1 => ⟨h, fitL_rep h n⟩
theorem fit25 {Ω : Opq} (hΩ : Ω = std) : FitX (.sl true 8 (Ω.take (Ω.nat 25) (Ω.rep (Ω.nat 25) (.agg [str [], i64 0, i64 0, i64 0, i64 0, .nil, .nil, .nil])))) (.sl true 8 ((List.replicate 25 (⟨[], Ver.zero, 0, [], [], []⟩ : Pck)).map (Pck.enc false))) := by
  subst hΩ
  refine ⟨3, rfl, rfl, ?_⟩
  show fitA.fitL 2 (List.take 25 (List.replicate 25 _)) _
  rw [List.take_of_length_le (by simp), List.map_replicate]
  exact fitL_rep (k := 2) (x := .agg [str [], i64 0, i64 0, i64 0, i64 0, .nil, .nil, .nil]) (y := .agg [str [], i64 0, i64 0, i64 0, i64 0, .sl false 1 [], .sl false 1 [], .sl false 7 []]) ⟨rfl, rfl, rfl, rfl, rfl, rfl, rfl, rfl, trivial⟩ 25
theorem encP_frz (l : List Pck) : (l.map (Pck.enc false)).map frz = l.map (Pck.enc false) := by rw [List.map_map]; exact List.map_congr_left fun o _ => encF o
theorem d_l2Catalog {bs : List A} (hb : Src bs) (p : Int) (h0 : 0 ≤ p) (h1 : p + 900 ≤ 1099511627776) : XCtr PP n_spec_l2Catalog [src bs p] (DR bs p 900 [] fun x => ∃ l : List Pck, x = .sl true 8 (l.map (Pck.enc false)) ∧ (∀ o ∈ l, o.Small) ∧ l.length ≤ 40) := by
  obtain ⟨Ω, hΩ⟩ : ∃ Ω, Ω = std := ⟨_, rfl⟩
  have hfd : ∀ l : List Pck, l.length ≤ 1048576 → ∀ (n : List UInt8) (v : Ver), ∃ r, PCtr PP n_spec_l2Find [encP l, str n, v.enc] (i64 r) := fun l h n v => ⟨_, c_l2Find l n v h⟩
  unfold encP at hfd
  have hN := fun p n a b c => d_l1Next hb p n a b c
  have hP := fun p ns a b c d => d_l1Pick hb p ns a b c d
  have hl2Pack := fun p a b => d_l2Pack hb p a b
  have hl2BentPack := fun p a b => d_l2BentPack hb p a b
  have htab := tab
  have hmo := hmo
  refine XCtr.walkO tab hΩ 3 fn_spec_l2Catalog rfl rfl ?_
  generalize PP = P at *
  cbv
  refine call_dr false hΩ 3 (hN _ 12 (by omega) (by omega) (by omega)) rfl rfl rfl (fun q1 x q1a q1b ⟨r7, hx, hr7⟩ => ?_)
  subst hx
  cbv
  refine call_pick (ns := [3, 4, 5, 6, 7, 8, r7]) hΩ (hP _ _ (by omega) (by omega) (Nat.zero_lt_succ _) (Nat.le_of_ble_eq_true rfl)) rfl rfl rfl rfl (by decide) (fun q2 n q2a q2b hn => ?_)
  replace hn : 0 ≤ n ∧ n ≤ 11 := by
    have := hr7.2 (by omega)
    simp at hn
    omega
  cbv
  obtain ⟨F, hF⟩ : ∃ F : List Pck → List A, F = fun l => l.map (Pck.enc false) := ⟨_, rfl⟩
  have hF0 : F [] = [] := by rw [hF]; rfl
  have hFl : ∀ l, (F l).length = l.length := fun l => by rw [hF]; exact List.length_map _
  have hFz : ∀ l, (F l).map frz = F l := fun l => by rw [hF]; exact encP_frz l
  have hFs : ∀ (l : List Pck) (o : Pck), Ω.app (Ω.take l.length (F l)) [o.enc false] = F (l ++ [o]) := fun l o => by
    subst hΩ; rw [hF]; show List.take l.length (List.map (Pck.enc false) l) ++ _ = List.map (Pck.enc false) (l ++ [o])
    rw [List.map_append, List.take_of_length_le (by simp)]; rfl
  have hFm : ∀ l, F l = l.map (Pck.enc false) := fun l => by rw [hF]
  clear hF
  replace hfd : ∀ l : List Pck, l.length ≤ 1048576 → ∀ (n : List UInt8) (v : Ver), ∃ r, PCtr P n_spec_l2Find [.sl false 8 (F l), str n, v.enc] (i64 r) := fun l h n v => by rw [hFm]; exact hfd l h n v
  refine loopX htab hΩ (fun i : Int × Int × List Pck => ⟨[(0, .pt 0 0 0), (3, .vw 1 0 i.2.2.length), (4, i64 i.1), (53, .pt 0 0 0)], 53, [some ⟨2, [.agg [.sl false 1 bs, i64 i.2.1]], true⟩, some ⟨8, F i.2.2, false⟩]⟩)
    (fun i => 0 ≤ i.1 ∧ i.1 ≤ 11 ∧ p ≤ i.2.1 ∧ i.2.1 + 60 * i.1 ≤ p + 700 ∧ (i.2.2.length : Int) + i.1 ≤ 11 ∧ ∀ o ∈ i.2.2, o.Small) (fun i => i.1.toNat) (n, q2, [])
    ⟨by dsimp only; omega, by dsimp only; omega, by dsimp only; omega, by dsimp only; omega, by show ((0 : Nat) : Int) + n ≤ 11; omega, by simp⟩ ((Sbs.cut 2 rfl).trans (Sbs.mk rfl (by show _ = [_, some (Row.mk 8 (F []) false)]; rw [hF0]; rfl) ⟨rfl, rfl, rfl, rfl, trivial⟩)) ?_
  rintro ⟨k, q, l⟩ ⟨i1, i2, i3, i4, i5, i6⟩
  dsimp only at i1 i2 i3 i4 i5 i6
  have hFli := hFl l
  have hFzi := hFz l
  obtain ⟨m, hm⟩ : ∃ m, l.length = m := ⟨_, rfl⟩
  have hfi := hfd l (by omega)
  have hrows : ∀ {R0 : Option Row} {X : A} {o : Pck}, X = o.enc false → [R0, some (Row.mk 8 (Ω.app (Ω.take m (F l)) [X]) false)] = [R0, some (Row.mk 8 (F (l ++ [o])) false)] := fun {R0 X o} h => by rw [h, ← hm, hFs]
  have hvw : ∀ {X : A} {o : Pck}, A.vw 1 0 (Ω.plus m (Ω.len [X])) = .vw 1 0 (l ++ [o]).length := fun {X o} => by subst hΩ; rw [List.length_append, hm]; rfl
  have hall : ∀ o : Pck, o.Small → ∀ o' ∈ l ++ [o], o'.Small := fun o h o' ho => by
    rcases List.mem_append.1 ho with h1 | h1
    · exact i6 o' h1
    · rw [List.mem_singleton.1 h1]; exact h
  have hFe : A.sl true 8 (Ω.take m (F l)) = .sl true 8 (l.map (Pck.enc false)) := by rw [← hFm, ← hm]; subst hΩ; exact congrArg _ (List.take_of_length_le (by rw [hFl]; exact Nat.le_refl _))
  have hlm : l.length ≤ 11 := by omega
  have h6 : (l.length : Int) + (k - 1) ≤ 11 := by omega
  have hl40 : ∀ o : Pck, (l ++ [o]).length ≤ 40 := fun o => by rw [List.length_append, List.length_singleton]; omega
  have hl41 : l.length ≤ 40 := by omega
  have hle1 : m ≤ (F l).length := by rw [hFl]; omega
  have hle2 : ∀ {X : A}, Ω.plus m (Ω.len [X]) ≤ (Ω.app (Ω.take m (F l)) [X]).length := fun {X} => by
    subst hΩ; show m + 1 ≤ (List.take m (F l) ++ [X]).length
    rw [List.take_of_length_le (by rw [hFl]; omega), List.length_append, hFl]; show m + 1 ≤ l.length + 1; omega
  have hFe2 : ∀ {X : A} {o : Pck}, X = o.enc false → A.sl true 8 (Ω.take (Ω.plus m (Ω.len [X])) (Ω.app (Ω.take m (F l)) [X])) = .sl true 8 ((l ++ [o]).map (Pck.enc false)) := fun {X o} h => by
    rw [h, ← hm, hFs, ← hFm]; subst hΩ; exact congrArg _ (List.take_of_length_le (by rw [hFl, List.length_append]; exact Nat.le_refl _))
  have hpos : 0 < Ω.int m → 0 < l.length := fun h => by subst hΩ; have h : (0 : Int) < (m : Int) := h; omega
  have hpos2 : 0 < Ω.int m → 0 < (m : Int) := fun h => by subst hΩ; exact h
  have hat : ∀ {o : Pck}, l[0]? = some o → (F l)[Ω.plus 0 (Ω.nat 0)]? = some (o.enc false) := fun {o} h => by
    subst hΩ; show (F l)[0]? = _; rw [hFm, List.getElem?_map, h]; rfl
  have h5 : ∀ o : Pck, ((l ++ [o]).length : Int) + (k - 1) ≤ 11 := fun o => by rw [List.length_append, List.length_singleton]; omega
  rw [hm] at hFli i5 hlm ⊢
  cbv
  refine br (fun hk => ?_) (fun hk => ?_) <;> cbv
  · have hk := gtI_t hΩ hk
    refine call_dr true hΩ 3 (hl2Pack _ (by omega) (by omega)) rfl rfl rfl (fun q3 x q3a q3b ⟨o, hx, ht⟩ => ?_)
    rw [show fzA true x = Pck.enc false o by rw [hx]; exact frz_encP o]
    clear hx
    obtain ⟨op, od, ob, oh, o1, o2, o3⟩ := enc_raw o
    rw [oh]
    cbv
    obtain ⟨fr, hfr⟩ := hfi o.n o.v
    refine call_pure hΩ 3 hfr (mapO3 (ro_vw rfl hFli.symm hFzi) rfl rfl) (fits _) rfl rfl ?_
    cbv
    refine br (fun hf => ?_) (fun hf => ?_) <;> cbv
    · exact ⟨⟨rfl, okAll rfl, by show (m + 1) * 120 ≤ 140737488355328; omega, by show m + 1 ≤ 9223372036854775807; omega⟩, (k - 1, q3, l ++ [o]), ⟨by dsimp only; omega, by dsimp only; omega, by dsimp only; omega, by dsimp only; omega, h5 o, hall o ht.two.small⟩, by dsimp only; omega, (Sbs.cut 2 rfl).trans (Sbs.mk rfl (hrows oh.symm) ⟨rfl, hvw, decI hΩ (by omega) (by omega), rfl, trivial⟩)⟩
    · exact ⟨(k - 1, q3, l), ⟨by dsimp only; omega, by dsimp only; omega, by dsimp only; omega, by dsimp only; omega, h6, i6⟩, by dsimp only; omega, (Sbs.cut 2 rfl).trans (Sbs.mk rfl rfl ⟨rfl, congrArg (A.vw 1 0) hm.symm, decI hΩ (by omega) (by omega), rfl, trivial⟩)⟩
  · have hk := gtI_f hΩ hk
    refine call_dr false hΩ 3 (hN _ 40 (by omega) (by omega) (by omega)) rfl rfl rfl (fun q3 x q3a q3b ⟨sw, hx, hsw⟩ => ?_)
    subst hx
    cbv
    refine br (fun hs => ?_) (fun hs => ?_) <;> cbv
    · refine call_dr true hΩ 3 (hl2BentPack _ (by omega) (by omega)) rfl rfl rfl (fun q4 x q4a q4b ⟨o, hx, ht⟩ => ?_)
      rw [show fzA true x = Pck.enc false o by rw [hx]; exact frz_encP o]
      clear hx
      obtain ⟨op, od, ob, oh, o1, o2, o3⟩ := enc_raw o
      rw [oh]
      cbv
      exact ⟨⟨rfl, okAll rfl, by show (m + 1) * 120 ≤ 140737488355328; omega, by show m + 1 ≤ 9223372036854775807; omega⟩, ⟨rfl, hle2⟩, _, _, .of (hFe2 oh.symm), .same, ⟨q4, by omega, by omega, rfl, l ++ [o], rfl, hall o ht.small, hl40 o⟩, rfl⟩
    refine br (fun hs => ?_) (fun hs => ?_) <;> cbv
    · refine br (fun hz => ?_) (fun hz => ?_) <;> cbv
      · have hz := gtI_t hΩ hz
        obtain ⟨o, ho⟩ := at_of (cs := l) (i := 0) (hpos hz)
        obtain ⟨op, od, ob, oh, o1, o2, o3⟩ := enc_raw o
        refine ⟨⟨Int.le_refl _, hpos2 hz⟩, _, (hat ho).trans (congrArg some oh), ?_⟩
        cbv
        exact ⟨⟨rfl, okAll rfl, by show (m + 1) * 120 ≤ 140737488355328; omega, by show m + 1 ≤ 9223372036854775807; omega⟩, ⟨rfl, hle2⟩, _, _, .of (hFe2 oh.symm), .same, ⟨q3, by omega, by omega, rfl, l ++ [o], rfl, hall o (i6 o (List.mem_of_getElem? ho)), hl40 o⟩, rfl⟩
      · exact ⟨⟨rfl, hle1⟩, _, _, .of hFe, .same, ⟨q3, by omega, by omega, rfl, l, rfl, i6, hl41⟩, rfl⟩
    refine br (fun hs => ?_) (fun hs => ?_) <;> cbv
    · exact ⟨⟨rfl, by decide, by decide, by decide⟩, ⟨rfl, by subst hΩ; exact Nat.le_refl _⟩, _, _, fit25 hΩ, .same, ⟨q3, by omega, by omega, rfl, List.replicate 25 ⟨[], Ver.zero, 0, [], [], []⟩, rfl, fun o ho => by rw [(List.mem_replicate.1 ho).2]; exact ⟨by decide, by decide, by decide, by simp⟩, by decide⟩, rfl⟩
    exact ⟨⟨rfl, hle1⟩, _, _, .of hFe, .same, ⟨q3, by omega, by omega, rfl, l, rfl, i6, hl41⟩, rfl⟩
end Go.Proofs.YtomfmdfamlmfiaaGreat

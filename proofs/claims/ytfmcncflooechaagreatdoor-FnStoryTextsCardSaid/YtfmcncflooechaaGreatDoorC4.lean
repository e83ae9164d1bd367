/- Calls that write into one box of plain data and hand back something of which a relation speaks. Plain theorems, no condition. -/
import Derived.Test.YtfmcncflooechaaGreatDoorC3
import Derived.Shelf.Strconv.Itoa4
import Derived.Shelf.Strings.OnBuilder
import Derived.Ground.NamesProg
import Derived.Shelf.Strings.SplitCore
import Derived.Shelf.Strings.Search3
import Derived.Shelf.Strings.Count
import Derived.Lib.IndexBytes
import Derived.Lib.SplitLaws
set_option linter.unusedVariables false
set_option linter.unusedSimpArgs false
namespace Go.Fw
section
variable {P : Program} {T : Nat → Option TI} {S : State} {Ω : Opq}
theorem mutL_data : ∀ {xs : List A}, xs.all isData = true → xs.all noOwn = true → MutL S xs xs xs []
  | [], _, _ => .nil
  | x :: xs, h1, h2 => by
    simp only [List.all_cons, Bool.and_eq_true] at h1 h2
    exact .cons (l := []) (.data h1.1 h2.1) (mutL_data h1.2 h2.2)
theorem CallOK_box {g k r : Nat} {row : Row} {rest : List A} {R : A → List A → Prop} {K : A → State → Prop} (fz : Bool) (hc : XCtr P g (.bx (flat row.xs) :: rest) R) (hr : rowAt S.rows r = some row) (h1 : row.xs.length = 1) (hlk : row.lk = true)
    (hd : (flat row.xs).all isData = true) (hno : (flat row.xs).all noOwn = true) (hrd : rest.all isData = true) (hrn : rest.all noOwn = true)
    (h : ∀ x outs, R x outs → ∃ ys, outs = .bx ys :: rest ∧ ys.length = row.n ∧ ys.all noOwn = true ∧ noOwn (rootA k (S.mut [(r, [.agg ys])]) (if fz then frz x else x)).1 = true ∧
      K (rootA k (S.mut [(r, [.agg ys])]) (if fz then frz x else x)).1 (rootA k (S.mut [(r, [.agg ys])]) (if fz then frz x else x)).2) : CallOK P g (.pt r 0 0 :: rest) S K := by
  refine ⟨hc.enter, fun E G gs tmps w vs hi hl => ?_⟩
  have hm : ∀ ys : List A, ys.length = row.n → MutL S (.pt r 0 0 :: rest) (.bx (flat row.xs) :: rest) (.bx ys :: rest) [(r, [.agg ys])] := fun ys hy =>
    .cons (l := [(r, [.agg ys])]) (ls := []) (.pt hr h1 hlk hd hy) (mutL_data hrd hrn)
  have hlen0 : (flat row.xs).length = row.n := by
    obtain ⟨b, _, hrc⟩ := row_real hi hr (by omega)
    obtain ⟨_, _, _, _, _, _, _, h5, _⟩ := hrc.ex
    obtain ⟨y, hy⟩ : ∃ y, row.xs = [y] := by
      match hx : row.xs with
      | [] => rw [hx] at h1; cases h1
      | [y] => exact ⟨y, rfl⟩
      | _ :: _ :: _ => rw [hx] at h1; simp at h1
    rw [hy]
    have := h5 y (by rw [hy]; simp)
    unfold A.width at this
    simpa [flat] using this
  have hgive := mut_giveL hi (hm (flat row.xs) hlen0) hl
  have hown : ∀ b ∈ gs.all r, ¬ G b ∧ (E.Fin b ∨ E.w0.heap.size ≤ b) ∧ b < w.heap.size := fun b hb => by
    obtain ⟨q1, q2⟩ := hi.own r row hr b hb
    exact ⟨q1, q2, hi.block_lt hr b hb⟩
  have hF : blocksOf gs [(r, [A.agg (flat row.xs)])] = gs.all r := by simp [blocksOf]
  rw [hF] at hgive
  refine Calls.mono (hc.run w G vs (gs.all r) hi.glt (hi.nod r row hr) (fun b hb => (hown b hb).1) hgive) ?_
  rintro e w' ⟨v, Fx, Fo, x, outs, hR, rfl, hmem, hnd, hin, hx, ho⟩
  obtain ⟨ys, rfl, hy, hyn, hnr, hK⟩ := h x outs hR
  -- the box's block comes back, so what is handed back is new
  have key : ∀ Fr, RelL w G (.bx (flat row.xs) :: rest) vs Fr → ∀ b ∈ Fr, b ∈ Fo := fun Fr hg b hb => by
    cases hg with
    | cons g1 g2 =>
      have hFb := g2.noOwn hrn
      subst hFb
      rw [List.append_nil] at hb
      cases ho with
      | cons o1 o2 =>
        cases g1 with
        | bx hh hl1 hv =>
          have hF0 := hl1.noOwn hno
          subst hF0
          cases o1 with
          | bx hh' hl' hv' => simp at hb; subst hb; simp
  have hsub := key _ hgive
  have hnew : ∀ b ∈ Fx, w.heap.size ≤ b := fun b hb => by
    rcases hin b (by simp [hb]) with q | q
    · exact absurd (hsub b q) (fun q2 => (List.nodup_append.1 hnd).2.2 b hb b q2 rfl)
    · exact q
  have hsz : ∀ b ∈ Fx, b < w'.heap.size := hx.lt
  have hF2 : ∀ ys' : List A, blocksOf gs [(r, [A.agg ys'])] = gs.all r := fun ys' => by simp [blocksOf]
  cases fz with
  | false =>
    exact mut_post hi hl (hm ys hy) (by simp) hnr hK ⟨by rw [hF2]; exact hmem, hnd, fun b hb => by rw [hF2]; exact hin b hb, by rw [hF2]; exact hx, by rw [hF2]; exact ho⟩
  | true =>
    have hnd' := (List.nodup_append.1 hnd)
    refine mut_post (Fx := []) (Fo := Fo) hi hl (hm ys hy) (by simp) hnr hK ⟨by rw [hF2]; exact hmem, by simpa using hnd'.2.1, fun b hb => by rw [hF2]; exact hin b (by simp at hb; simp [hb]), ?_, ?_⟩
    · rw [hF2]; exact hx.frz (fun b hb => ⟨hb.1, fun q => hb.2 (by simp at q; simp [q])⟩) fun b hb => ⟨.inr (.inr ⟨hnew b hb, hsz b hb⟩), fun q => hnd'.2.2 b hb b (by simpa using q) rfl⟩
    · rw [hF2]; exact ho.move_ (fun b hb => ⟨⟨hb.1, fun q => hb.2 (by simp at q; simp [q])⟩, rfl⟩) fun _ _ => rfl
def fzA (fz : Bool) (x : A) : A := match fz with | true => frz x | false => x
theorem call_box (hΩ : Ω = std) (k : Nat) {g r : Nat} {row : Row} {rest : List A} {R : A → List A → Prop} {K : A → State → Prop} (fz : Bool) (hc : XCtr P g (.bx (flat row.xs) :: rest) R) (hr : rowAt S.rows r = some row) (h1 : row.xs.length = 1) (hlk : row.lk = true)
    (hd : (flat row.xs).all isData = true) (hno : (flat row.xs).all noOwn = true) (hrd : rest.all isData = true) (hrn : rest.all noOwn = true)
    (h : ∀ x outs, R x outs → ∃ ys, outs = .bx ys :: rest ∧ ys.length = row.n ∧ ys.all noOwn = true ∧ noOwn (rootO Ω k (S.mut [(r, [.agg ys])]) (fzA fz x)).1 = true ∧
      K (rootO Ω k (S.mut [(r, [.agg ys])]) (fzA fz x)).1 (rootO Ω k (S.mut [(r, [.agg ys])]) (fzA fz x)).2) : CallX P g (.pt r 0 0 :: rest) S K := by
  subst hΩ
  have e : ∀ x, (if fz = true then frz x else x) = fzA fz x := fun x => by cases fz <;> rfl
  exact ⟨CallOK_box (k := k) fz hc hr h1 hlk hd hno hrd hrn fun x outs hR => by simp only [e, ← rootO_std]; exact h x outs hR⟩
/-- Rows from n on are not asked for any more. -/
def cutT (n : Nat) (t : List (Nat × A)) : List (Nat × A) := t.map fun p => (p.1, if onlyR (List.range n) p.2 then p.2 else .un)
theorem lk_cutT (n : Nat) : ∀ (t : List (Nat × A)) (i : Nat), lk (cutT n t) i = if onlyR (List.range n) (lk t i) then lk t i else .un
  | [], i => by simp [cutT, lk, onlyR]
  | (k, x) :: l, i => by
    have ih := lk_cutT n l i
    simp only [cutT] at ih
    simp only [cutT, List.map_cons, lk]
    split
    · rfl
    · exact ih
def rowsOnly (n : Nat) : List (Option Row) → Bool
  | [] => true
  | none :: l => rowsOnly n l
  | some row :: l => rowOnly (List.range n) row && rowsOnly n l
theorem rowsOnly_at {n : Nat} : ∀ {l : List (Option Row)} {r : Nat} {row : Row}, rowsOnly n l = true → rowAt l r = some row → rowOnly (List.range n) row = true
  | [], r, row, _, h => by simp [rowAt] at h
  | none :: l, 0, row, _, h => by simp [rowAt] at h
  | some row' :: l, 0, row, h1, h => by
    simp [rowAt] at h
    subst h
    simp only [rowsOnly, Bool.and_eq_true] at h1
    exact h1.1
  | none :: l, r + 1, row, h1, h => rowsOnly_at (l := l) (r := r) h1 (by simpa [rowAt] using h)
  | some row' :: l, r + 1, row, h1, h => by
    simp only [rowsOnly, Bool.and_eq_true] at h1
    exact rowsOnly_at (l := l) (r := r) h1.2 (by simpa [rowAt] using h)
theorem rowAt_take {l : List (Option Row)} {n r : Nat} : rowAt (l.take n) r = if r < n then rowAt l r else none := by
  unfold rowAt
  rw [List.getElem?_take]
  split <;> rfl
theorem Sbs.cut (n : Nat) (h : rowsOnly n (S.rows.take n) = true) : Sbs S ⟨cutT n S.t, S.N, S.rows.take n⟩ := by
  intro P E a w ⟨hd, G, gs, hi⟩
  have hrat : ∀ r row, rowAt (S.rows.take n) r = some row → rowAt S.rows r = some row := fun r row hr => by
    rw [rowAt_take] at hr
    split at hr
    · exact hr
    · cases hr
  have hle : ∀ r ∈ List.range n, RowLe w w S.rows (S.rows.take n) gs gs r := fun r hr => RowLe.refl_of fun row hrw => by
    rw [List.mem_range] at hr
    exact ⟨by rw [rowAt_take, if_pos hr]; exact hrw, rfl, fun _ _ => rfl⟩
  refine ⟨hd, G, gs, hi.keep, hi.os, hi.tape, hi.output, hi.size, hi.sz, hi.gsub, hi.gnew, hi.glt, fun r row hr => ?_, fun r row hr => hi.nod r row (hrat r row hr), fun r row hr => hi.own r row (hrat r row hr),
    fun r r' row row' hr hr' => hi.dis r r' row row' (hrat r row hr) (hrat r' row' hr'), fun i => ?_⟩
  · exact (hi.row r row (hrat r row hr)).on (fun b hb => ⟨hb, rfl⟩) hle (rowsOnly_at h hr) fun _ _ => rfl
  · show TRel w G (S.rows.take n) gs (lk (cutT n S.t) i) _ []
    rw [lk_cutT]
    split
    · rename_i ho
      exact (hi.tmp i).on (fun b hb => ⟨hb, rfl⟩) hle ho (by simp)
    · exact .un
/-! An own row of data, from now on only read. -/
mutual
def thaw (r n : Nat) (xs : List A) : A → A
  | .vw r' off len => if r' = r then .sl false n ((xs.drop off).take len) else .vw r' off len
  | .pt r' j o => if r' = r then .rp ((flat xs).drop (j * n + o)) else .pt r' j o
  | .agg ys => .agg (thawL r n xs ys)
  | .tup ys => .tup (thawL r n xs ys)
  | .clo g ys => .clo g (thawL r n xs ys)
  | .un => .un
  | .sc v => .sc v
  | .nil => .nil
  | .sl o m ys => .sl o m ys
  | .rp ys => .rp ys
  | .bx ys => .bx ys
def thawL (r n : Nat) (xs : List A) : List A → List A
  | [] => []
  | y :: ys => thaw r n xs y :: thawL r n xs ys
end
theorem thawL_eq (r n : Nat) (xs : List A) : ∀ ys : List A, thawL r n xs ys = ys.map (thaw r n xs)
  | [] => rfl
  | y :: ys => by rw [thawL, thawL_eq r n xs ys]; rfl
theorem thaw_agg (r n : Nat) (xs ys : List A) : thaw r n xs (.agg ys) = .agg (ys.map (thaw r n xs)) := by rw [thaw, thawL_eq]
theorem thaw_tup (r n : Nat) (xs ys : List A) : thaw r n xs (.tup ys) = .tup (ys.map (thaw r n xs)) := by rw [thaw, thawL_eq]
theorem thaw_clo (r n g : Nat) (xs ys : List A) : thaw r n xs (.clo g ys) = .clo g (ys.map (thaw r n xs)) := by rw [thaw, thawL_eq]
theorem Rel.thaw {w : World} {G : Nat → Prop} {x : A} {v : Value} {F : List Nat} (h : Rel w G x v F) (r n : Nat) (xs : List A) : Fw.thaw r n xs x = x := by
  refine Rel.rec (motive_1 := fun x v F _ => Fw.thaw r n xs x = x) (motive_2 := fun ys vs F _ => ys.map (Fw.thaw r n xs) = ys)
    ?_ ?_ ?_ ?_ ?_ ?_ ?_ ?_ ?_ ?_ ?_ ?_ ?_ ?_ h
  · intros; rw [Fw.thaw]
  · intros; rw [Fw.thaw]
  · intros; rw [Fw.thaw]
  · intros; rw [Fw.thaw]
  · intros; rw [Fw.thaw]
  · intros; rw [Fw.thaw]
  · intros; rw [Fw.thaw]
  · intro xs cs F hl ih; rw [thaw_agg, ih]
  · intro xs cs F hl ih; rw [thaw_tup, ih]
  · intros; rw [Fw.thaw]
  · intros; rw [Fw.thaw]
  · intro g caps cs F hl ih; rw [thaw_clo, ih]
  · rfl
  · intro x v F xs vs Fs h hl ih ih'; rw [List.map_cons, ih, ih']
/-- What is known of a row whose blocks are G's from now on. -/
structure Thawed (w : World) (G G' : Nat → Prop) (rows rows' : List (Option Row)) (gs gs' : Gh) (r : Nat) (row : Row) (ys : List A) : Prop where
  sub : ∀ b, G b → G' b
  ro : ∀ b, (gs r).1 = some b → G' b
  ob : RowRel w G' rows gs { row with xs := ys } (gs r).1 []
  len : ys.length = row.xs.length
  lk : row.lk = false
  at_ : rowAt rows r = some row
  other : ∀ q row', q ≠ r → rowAt rows q = some row' → rowAt rows' q = some row' ∨ ∃ row2, rowAt rows' q = some row2 ∧ row2.n = row'.n ∧ row2.xs.length = row'.xs.length
  gsq : ∀ q, q ≠ r → gs' q = gs q
theorem TRel.thaw {w : World} {G G' : Nat → Prop} {rows rows' : List (Option Row)} {gs gs' : Gh} {r : Nat} {row : Row} {ys : List A} (ht : Thawed w G G' rows rows' gs gs' r row ys) {x : A} {v : Value} {F : List Nat} (h : TRel w G rows gs x v F) :
    TRel w G' rows' gs' (Fw.thaw r row.n ys x) v F := by
  refine TRel.rec (motive_1 := fun x v F _ => TRel w G' rows' gs' (Fw.thaw r row.n ys x) v F) (motive_2 := fun xs vs F _ => TRelL w G' rows' gs' (xs.map (Fw.thaw r row.n ys)) vs F) ?_ ?_ ?_ ?_ ?_ ?_ ?_ ?_ ?_ ?_ h
  · intros; rw [Fw.thaw]; exact .un
  · intro x v F h; rw [h.thaw]; exact .of (h.move_ (fun b hb => ⟨ht.sub b hb, rfl⟩) fun _ _ => rfl)
  · intro q off len k cap c row' cur e h1 h2 h3 h4 h5 h6 h7 h8
    rw [Fw.thaw]
    split
    · rename_i hq
      subst hq
      rw [ht.at_] at h1
      obtain rfl := Option.some.inj h1
      have hob := ht.ob
      rw [h2] at hob
      obtain ⟨cur', e', cap', g1, g2, g3, g4, g5, g6, g7⟩ := RowCells.ex hob
      rw [h4] at g1
      obtain ⟨rfl, -, -⟩ : cur = cur' ∧ e = e' ∧ True := by simpa using g1
      unfold CellsRel at g7
      dsimp only at g3 g5 g6 g7
      rw [if_neg (by rw [ht.lk]; simp)] at g7
      have hwd : ∀ x ∈ ys, x.width = row.n := g5
      have hlen : ys.length = row.xs.length := ht.len
      have hl2 : (ys.drop off).take len = (ys.take (off + len)).drop off := by rw [List.drop_take]; congr 1; omega
      have h9 := (g7.take0 ((off + len) * row.n)).drop0 (off * row.n)
      rw [flat_take (off + len) hwd, flat_drop off (fun x hx => hwd x (List.mem_of_mem_take hx)), ← hl2] at h9
      have e9 : List.drop (off * row.n) (List.take ((off + len) * row.n) (List.take (ys.length * row.n) cur.toList)) = (cur.toList.drop (off * row.n)).take (len * row.n) := by
        have hle : (off + len) * row.n ≤ ys.length * row.n := Nat.mul_le_mul_right _ (by rw [hlen]; exact h3)
        rw [List.take_take, Nat.min_eq_left hle, List.drop_take, Nat.add_mul, Nat.add_sub_cancel_left]
      rw [e9] at h9
      have hll : len = ((ys.drop off).take len).length := by simp; omega
      refine .of (.ro h4 (ht.ro c h2) (fun x hx => hwd x (List.mem_of_mem_drop (List.mem_of_mem_take hx))) hll rfl ?_ (by omega) (by omega))
      rcases h8 with rfl | ⟨h8, _⟩
      · exact h9
      · have h0 : len = 0 := by omega
        subst h0
        simpa [flat] using RelL.nil
    · rename_i hq
      rcases ht.other q row' hq h1 with h9 | ⟨row2, h9, h10, h11⟩
      · exact .vw h9 (by rw [ht.gsq q hq]; exact h2) h3 h4 h5 h6 h7 h8
      · exact .vw h9 (by rw [ht.gsq q hq]; exact h2) (by omega) h4 (by rw [h10]; exact h5) h6 (by omega) (by rw [h10]; exact h8)
  · intro q row' h1 h2 h3
    rw [Fw.thaw]
    split
    · simpa using TRel.of Rel.nils
    · rename_i hq
      rcases ht.other q row' hq h1 with h9 | ⟨row2, h9, h10, h11⟩
      · exact .vwn h9 (by rw [ht.gsq q hq]; exact h2) h3
      · exact .vwn h9 (by rw [ht.gsq q hq]; exact h2) (List.eq_nil_of_length_eq_zero (by rw [h11, h3]; rfl))
  · intro q j o k c row' h1 h2 h3
    rw [Fw.thaw]
    split
    · rename_i hq
      subst hq
      rw [ht.at_] at h1
      obtain rfl := Option.some.inj h1
      have hob := ht.ob
      rw [h2] at hob
      obtain ⟨cur', e', cap', g1, g2, g3, g4, g5, g6, g7⟩ := RowCells.ex hob
      unfold CellsRel at g7
      dsimp only at g3 g5 g6 g7
      rw [if_neg (by rw [ht.lk]; simp)] at g7
      have h9 := g7.drop0 (j * row.n + o)
      have hfl := flat_length (n := row.n) (xs := ys) g5
      subst h3
      refine .of (.rp g1 (ht.ro c h2) rfl ?_)
      rw [List.length_drop, hfl, ← List.drop_take]
      exact h9
    · rename_i hq
      rcases ht.other q row' hq h1 with h9 | ⟨row2, h9, h10, h11⟩
      · exact .pt h9 (by rw [ht.gsq q hq]; exact h2) h3
      · exact .pt h9 (by rw [ht.gsq q hq]; exact h2) (by rw [h10]; exact h3)
  · intro xs cs F hl ih; rw [thaw_agg]; exact .agg ih
  · intro xs cs F hl ih; rw [thaw_tup]; exact .tup ih
  · intro g caps cs F hl ih; rw [thaw_clo]; exact .clo ih
  · exact .nil
  · intro x v F xs vs Fs h hl ih ih'; exact .cons ih ih'
def thawRow (r n : Nat) (xs : List A) (row : Row) : Row := if row.lk then { row with xs := row.xs.map (thaw r n xs) } else row
def thawT (r n : Nat) (xs : List A) (t : List (Nat × A)) : List (Nat × A) := t.map fun p => (p.1, thaw r n xs p.2)
theorem lk_thawT (r n : Nat) (xs : List A) : ∀ (t : List (Nat × A)) (i : Nat), lk (thawT r n xs t) i = thaw r n xs (lk t i)
  | [], i => by show A.un = thaw r n xs .un; rw [thaw]
  | (k, x) :: l, i => by
    have ih := lk_thawT r n xs l i
    simp only [thawT] at ih
    simp only [thawT, List.map_cons, lk]
    split
    · rfl
    · exact ih
theorem thaw_cells (r n : Nat) (xs : List A) (x : A) : (thaw r n xs x).cells = x.cells.map (thaw r n xs) := by
  have e1 : ∀ q o l, (if q = r then A.sl false n ((xs.drop o).take l) else A.vw q o l).cells = [if q = r then A.sl false n ((xs.drop o).take l) else A.vw q o l] := fun q o l => by split <;> rfl
  have e2 : ∀ q o l, (if q = r then A.rp ((flat xs).drop (o * n + l)) else A.pt q o l).cells = [if q = r then A.rp ((flat xs).drop (o * n + l)) else A.pt q o l] := fun q o l => by split <;> rfl
  cases x with
  | vw q o l => simp only [A.cells, List.map_cons, List.map_nil, thaw, e1]; exact e1 q o l
  | pt q o l => simp only [A.cells, List.map_cons, List.map_nil, thaw, e2]; exact e2 q o l
  | _ => simp only [thaw, thawL_eq, A.cells, List.map_cons, List.map_nil]
theorem thaw_width (r n : Nat) (xs : List A) (x : A) : (thaw r n xs x).width = x.width := by simp [A.width, thaw_cells]
theorem thaw_flat (r n : Nat) (xs ys : List A) : flat (ys.map (thaw r n xs)) = (flat ys).map (thaw r n xs) := by
  induction ys with
  | nil => rfl
  | cons x ys ih => simp only [flat, List.map_cons, List.flatMap_cons, List.map_append] at *; rw [ih, thaw_cells]
def State.thaw (S : State) (r n : Nat) (ys : List A) : State := ⟨thawT r n ys S.t, S.N, (S.rows.map (Option.map (thawRow r n ys))).set r none⟩
/-- An own row of data is only read from now on: what led into it tells what it holds. -/
theorem Sbs.thawY {r : Nat} {row : Row} {ys : List A} (hr : rowAt S.rows r = some row) (hlk : row.lk = false) (hyl : ys.length = row.xs.length)
    (hys : (∀ x ∈ row.xs, x.width = row.n) → (∀ x ∈ ys, x.width = row.n))
    (hre : ∀ (w : World) (G G' : Nat → Prop) (vs : List Value) (F : List Nat), RelL w G (flat row.xs) vs F → (∀ b, G b → G' b) → (∀ b ∈ F, G' b) → RelL w G' (flat ys) vs []) : Sbs S (S.thaw r row.n ys) := by
  intro P E ac w ⟨hd, G, gs, hi⟩
  have hal := rowAt_lt hr
  have hrat : ∀ q, rowAt (S.thaw r row.n ys).rows q = if q = r then none else (rowAt S.rows q).map (thawRow r row.n ys) := fun q => by
    show rowAt ((S.rows.map (Option.map (thawRow r row.n ys))).set r none) q = _
    rw [rowAt_set _ _ _ _ (by simpa using hal)]
    split
    · rfl
    · simp only [rowAt, List.getElem?_map]
      cases h : S.rows[q]? with
      | none => rfl
      | some o => cases o <;> rfl
  have hGsub : ∀ b, G b → G b ∨ b ∈ gs.all r := fun b h => .inl h
  have hob : RowRel w (fun b => G b ∨ b ∈ gs.all r) S.rows gs { row with xs := ys } (gs r).1 [] := by
    have h := hi.row r row hr
    have hin2 : ∀ b ∈ (gs r).2, b ∈ gs.all r := fun b hb => by simp [Gh.all, hb]
    generalize (gs r).1 = ob at h
    generalize (gs r).2 = F at h hin2
    cases ob with
    | none => exact ⟨List.eq_nil_of_length_eq_zero (by rw [hyl, h.1]; rfl), rfl⟩
    | some b =>
      obtain ⟨cur, e, cap, h1, h2, h3, h4, h5, h6, h7⟩ := RowCells.ex h
      refine ⟨cur, e, cap, h1, h2, by dsimp only; rw [hyl]; exact h3, h4, hys h5, by dsimp only; rw [hyl]; exact h6, ?_⟩
      · unfold CellsRel at h7 ⊢
        dsimp only
        rw [if_neg (by rw [hlk]; simp)] at h7 ⊢
        rw [hyl]
        exact hre w G (fun b => G b ∨ b ∈ gs.all r) _ _ h7 hGsub (fun b hb => .inr (hin2 b hb))
  have ht : Thawed w G (fun b => G b ∨ b ∈ gs.all r) S.rows (S.thaw r row.n ys).rows gs (gs.add r none []) r row ys := by
    refine ⟨hGsub, fun b hb => .inr (by simp [Gh.all, hb]), hob, hyl, hlk, hr, fun q row' hq hq2 => ?_, fun q hq => by simp [Gh.add, hq]⟩
    rw [hrat, if_neg hq, hq2]
    refine .inr ⟨_, rfl, ?_, ?_⟩ <;> unfold thawRow <;> split <;> simp
  have hgs : ∀ q, q ≠ r → (gs.add r none []) q = gs q := fun q hq => by simp [Gh.add, hq]
  have hall : ∀ q, q ≠ r → (gs.add r none []).all q = gs.all q := fun q hq => by simp only [Gh.all, hgs q hq]
  have hcase : ∀ q row', rowAt (S.thaw r row.n ys).rows q = some row' → q ≠ r ∧ ∃ row0, rowAt S.rows q = some row0 ∧ row' = thawRow r row.n ys row0 := fun q row' h => by
    rw [hrat] at h
    split at h
    · cases h
    · rename_i hq
      obtain ⟨row0, q1, q2⟩ := Option.map_eq_some_iff.1 h
      exact ⟨hq, row0, q1, q2.symm⟩
  refine ⟨hd, fun b => G b ∨ b ∈ gs.all r, gs.add r none [], hi.keep, hi.os, hi.tape, hi.output, hi.size, hi.sz, fun b hb => .inl (hi.gsub b hb), fun b hb => ?_, hi.glt.move (fun b h => .inl h) (fun _ _ => rfl) (fun b hb => ?_), fun q row' hq => ?_, fun q row' hq => ?_, fun q row' hq b hb => ?_, fun q q' row' row'' hq hq' hne => ?_, fun i => ?_⟩
  · rcases hb with hb | hb
    · exact hi.gnew b hb
    · exact .inr (hi.own r row hr b hb).2
  · rcases hb with hb | hb
    · exact hi.glt b hb
    · exact hi.block_lt hr b hb
  · obtain ⟨hqr, row0, h0, rfl⟩ := hcase q row' hq
    have hrow := hi.row q row0 h0
    rw [hgs q hqr]
    generalize (gs q).1 = ob at hrow
    cases ob with
    | none =>
      obtain ⟨q1, q2⟩ := hrow
      refine ⟨?_, q2⟩
      unfold thawRow
      split <;> simp [q1]
    | some c =>
      obtain ⟨cur, ee, cap, h1, h2, h3, h4, h5, h6, h7⟩ := RowCells.ex hrow
      unfold CellsRel at h7
      by_cases hl : row0.lk = true
      · have e1 : thawRow r row.n ys row0 = { row0 with xs := row0.xs.map (Fw.thaw r row.n ys) } := by unfold thawRow; rw [if_pos hl]
        rw [e1]
        refine ⟨cur, ee, cap, h1, h2, by simpa using h3, h4, ?_, by simpa using h6, ?_⟩
        · intro x hx
          obtain ⟨y, hy, rfl⟩ := List.mem_map.1 hx
          rw [thaw_width]; exact h5 y hy
        · unfold CellsRel
          rw [if_pos hl] at h7
          show if row0.lk = true then _ else _
          rw [if_pos hl, thaw_flat]
          have : ∀ {xs : List A} {vs : List Value} {F : List Nat}, TRelL w G S.rows gs xs vs F → TRelL w (fun b => G b ∨ b ∈ gs.all r) (S.thaw r row.n ys).rows (gs.add r none []) (xs.map (Fw.thaw r row.n ys)) vs F := by
            intro xs vs F h
            induction xs generalizing vs F with
            | nil => cases h; exact .nil
            | cons x xs ih => cases h with | cons h hl => exact .cons (h.thaw ht) (ih hl)
          simpa using this h7
      · have e1 : thawRow r row.n ys row0 = row0 := by unfold thawRow; rw [if_neg hl]
        rw [e1]
        refine ⟨cur, ee, cap, h1, h2, h3, h4, h5, h6, ?_⟩
        unfold CellsRel
        rw [if_neg hl] at h7 ⊢
        exact h7.move_ (fun b hb => ⟨.inl hb, rfl⟩) fun _ _ => rfl
  · obtain ⟨hqr, row0, h0, rfl⟩ := hcase q row' hq
    rw [hall q hqr]; exact hi.nod q row0 h0
  · obtain ⟨hqr, row0, h0, rfl⟩ := hcase q row' hq
    rw [hall q hqr] at hb
    obtain ⟨q1, q2⟩ := hi.own q row0 h0 b hb
    exact ⟨fun h => h.elim q1 fun h => hi.dis q r row0 row h0 hr hqr b hb h, q2⟩
  · obtain ⟨hqr, row0, h0, rfl⟩ := hcase q row' hq
    obtain ⟨hqr', row1, h1, rfl⟩ := hcase q' row'' hq'
    rw [hall q hqr, hall q' hqr']
    exact hi.dis q q' row0 row1 h0 h1 hne
  · show TRel w _ (S.thaw r row.n ys).rows _ (lk (thawT r row.n ys S.t) i) _ []
    rw [lk_thawT]
    exact (hi.tmp i).thaw ht
/-- The same with what is held alone frozen. -/
theorem Sbs.thaw {r : Nat} {row : Row} (hr : rowAt S.rows r = some row) (hlk : row.lk = false) : Sbs S (S.thaw r row.n (row.xs.map frz)) :=
  Sbs.thawY hr hlk (by simp) (fun h x hx => by obtain ⟨y, hy, rfl⟩ := List.mem_map.1 hx; rw [width_frz]; exact h y hy) fun w G G' vs F h h1 h2 => by rw [flat_frz]; exact RelL.frz h h1 h2
/-- The same where nothing is held alone. -/
theorem Sbs.thaw0 {r : Nat} {row : Row} (hr : rowAt S.rows r = some row) (hlk : row.lk = false) (hno : (flat row.xs).all noOwn = true) : Sbs S (S.thaw r row.n row.xs) :=
  Sbs.thawY hr hlk rfl (fun h => h) fun w G G' vs F h h1 h2 => by
    obtain rfl := h.noOwn hno
    exact RelL.move_ (fun b hb => ⟨h1 b hb, rfl⟩) h (fun _ _ => rfl)
/-- A box of data is told as a row of data. -/
theorem Sbs.unlk {r : Nat} {row : Row} (hr : rowAt S.rows r = some row) (hd : (flat row.xs).all isData = true) : Sbs S (S.setRow r { row with lk := false }) := by
  intro P E ac w ⟨hd', G, gs, hi⟩
  have hal := rowAt_lt hr
  have hrat : ∀ q, rowAt (S.setRow r { row with lk := false }).rows q = if q = r then some { row with lk := false } else rowAt S.rows q := fun q => rowAt_setRow hr
  have hle : ∀ q, RowLe w w S.rows (S.setRow r { row with lk := false }).rows gs gs q := fun q => ⟨fun row' h => by
    rw [hrat]
    split
    · rename_i e; subst e; rw [hr] at h; obtain rfl := Option.some.inj h; exact ⟨_, rfl, rfl, rfl, rfl, fun b cur e h1 h2 => ⟨cur, e, h2, rfl⟩⟩
    · exact ⟨_, h, rfl, rfl, rfl, fun b cur e h1 h2 => ⟨cur, e, h2, rfl⟩⟩⟩
  have hold : ∀ q row', rowAt (S.setRow r { row with lk := false }).rows q = some row' → ∃ row0, rowAt S.rows q = some row0 := fun q row' h => by
    rw [hrat] at h
    split at h
    · rename_i e; subst e; exact ⟨_, hr⟩
    · exact ⟨_, h⟩
  refine ⟨hd', G, gs, hi.keep, hi.os, hi.tape, hi.output, hi.size, hi.sz, hi.gsub, hi.gnew, hi.glt, fun q row' hq => ?_, fun q row' hq => ?_, fun q row' hq => ?_, fun q q' row' row'' hq hq' => ?_, fun i => (hi.tmp i).step (fun b hb => ⟨hb, rfl⟩) hle (by simp)⟩
  · rw [hrat] at hq
    split at hq
    · rename_i e
      subst e
      obtain rfl := Option.some.inj hq
      have h := hi.row q row hr
      generalize (gs q).1 = ob at h
      cases ob with
      | none => exact h
      | some b =>
        obtain ⟨cur, e, cap, h1, h2, h3, h4, h5, h6, h7⟩ := RowCells.ex h
        refine ⟨cur, e, cap, h1, h2, .of h3.le, h4, h5, h6, ?_⟩
        unfold CellsRel
        dsimp only
        rw [if_neg (by simp)]
        exact h7.t.data hd
    · exact (hi.row q row' hq).step (fun b hb => ⟨hb, rfl⟩) hle (fun _ _ => rfl)
  · obtain ⟨row0, h0⟩ := hold q row' hq
    exact hi.nod q row0 h0
  · obtain ⟨row0, h0⟩ := hold q row' hq
    exact hi.own q row0 h0
  · obtain ⟨row0, h0⟩ := hold q row' hq
    obtain ⟨row1, h1⟩ := hold q' row'' hq'
    exact hi.dis q q' row0 row1 h0 h1
/- Row a is told as row b from now on. -/
mutual
def ren (a b : Nat) : A → A
  | .vw r off len => if r = a then .vw b off len else .vw r off len
  | .pt r j o => if r = a then .pt b j o else .pt r j o
  | .agg xs => .agg (renL a b xs)
  | .tup xs => .tup (renL a b xs)
  | .clo g xs => .clo g (renL a b xs)
  | .un => .un
  | .sc v => .sc v
  | .nil => .nil
  | .sl o n xs => .sl o n xs
  | .rp xs => .rp xs
  | .bx xs => .bx xs
def renL (a b : Nat) : List A → List A
  | [] => []
  | x :: xs => ren a b x :: renL a b xs
end
theorem renL_eq (a b : Nat) : ∀ xs : List A, renL a b xs = xs.map (ren a b)
  | [] => rfl
  | x :: xs => by rw [renL, renL_eq a b xs]; rfl
theorem ren_agg (a b : Nat) (xs : List A) : ren a b (.agg xs) = .agg (xs.map (ren a b)) := by rw [ren, renL_eq]
theorem ren_tup (a b : Nat) (xs : List A) : ren a b (.tup xs) = .tup (xs.map (ren a b)) := by rw [ren, renL_eq]
theorem ren_clo (a b g : Nat) (xs : List A) : ren a b (.clo g xs) = .clo g (xs.map (ren a b)) := by rw [ren, renL_eq]
theorem Rel.ren {w : World} {G : Nat → Prop} {x : A} {v : Value} {F : List Nat} (h : Rel w G x v F) (a b : Nat) : Fw.ren a b x = x := by
  refine Rel.rec (motive_1 := fun x v F _ => Fw.ren a b x = x) (motive_2 := fun xs vs F _ => xs.map (Fw.ren a b) = xs)
    ?_ ?_ ?_ ?_ ?_ ?_ ?_ ?_ ?_ ?_ ?_ ?_ ?_ ?_ h
  · intros; rw [Fw.ren]
  · intros; rw [Fw.ren]
  · intros; rw [Fw.ren]
  · intros; rw [Fw.ren]
  · intros; rw [Fw.ren]
  · intros; rw [Fw.ren]
  · intros; rw [Fw.ren]
  · intro xs cs F hl ih; rw [ren_agg, ih]
  · intro xs cs F hl ih; rw [ren_tup, ih]
  · intros; rw [Fw.ren]
  · intros; rw [Fw.ren]
  · intro g caps cs F hl ih; rw [ren_clo, ih]
  · rfl
  · intro x v F xs vs Fs h hl ih ih'; rw [List.map_cons, ih, ih']
theorem TRel.ren {w : World} {G : Nat → Prop} {rows rows' : List (Option Row)} {gs gs' : Gh} {a b : Nat} (hr : ∀ r row, rowAt rows r = some row → ∃ row', rowAt rows' (if r = a then b else r) = some row' ∧ gs' (if r = a then b else r) = gs r ∧ row'.n = row.n ∧ row'.xs.length = row.xs.length)
    {x : A} {v : Value} {F : List Nat} (h : TRel w G rows gs x v F) : TRel w G rows' gs' (Fw.ren a b x) v F := by
  refine TRel.rec (motive_1 := fun x v F _ => TRel w G rows' gs' (Fw.ren a b x) v F) (motive_2 := fun xs vs F _ => TRelL w G rows' gs' (xs.map (Fw.ren a b)) vs F) ?_ ?_ ?_ ?_ ?_ ?_ ?_ ?_ ?_ ?_ h
  · intros; rw [Fw.ren]; exact .un
  · intro x v F h; rw [h.ren]; exact .of h
  · intro r off len k cap c row cur e h1 h2 h3 h4 h5 h6 h7 h8
    obtain ⟨row', q1, q2, q3, q4⟩ := hr r row h1
    have : Fw.ren a b (.vw r off len) = .vw (if r = a then b else r) off len := by rw [Fw.ren]; split <;> rfl
    rw [this]
    exact .vw q1 (by rw [q2]; exact h2) (by omega) h4 (by rw [h5, q3]) h6 (by omega) (by rw [q3]; exact h8)
  · intro r row h1 h2 h3
    obtain ⟨row', q1, q2, q3, q4⟩ := hr r row h1
    have : Fw.ren a b (.vw r 0 0) = .vw (if r = a then b else r) 0 0 := by rw [Fw.ren]; split <;> rfl
    rw [this]
    exact .vwn q1 (by rw [q2]; exact h2) (by rw [h3] at q4; exact List.eq_nil_of_length_eq_zero q4)
  · intro r j o k c row h1 h2 h3
    obtain ⟨row', q1, q2, q3, q4⟩ := hr r row h1
    have : Fw.ren a b (.pt r j o) = .pt (if r = a then b else r) j o := by rw [Fw.ren]; split <;> rfl
    rw [this]
    exact .pt q1 (by rw [q2]; exact h2) (by rw [q3]; exact h3)
  · intro xs cs F hl ih; rw [ren_agg]; exact .agg ih
  · intro xs cs F hl ih; rw [ren_tup]; exact .tup ih
  · intro g caps cs F hl ih; rw [ren_clo]; exact .clo ih
  · exact .nil
  · intro x v F xs vs Fs h hl ih ih'; exact .cons ih ih'
theorem TRelL.ren {w : World} {G : Nat → Prop} {rows rows' : List (Option Row)} {gs gs' : Gh} {a b : Nat} (hr : ∀ r row, rowAt rows r = some row → ∃ row', rowAt rows' (if r = a then b else r) = some row' ∧ gs' (if r = a then b else r) = gs r ∧ row'.n = row.n ∧ row'.xs.length = row.xs.length) :
    ∀ {xs : List A} {vs : List Value} {F : List Nat}, TRelL w G rows gs xs vs F → TRelL w G rows' gs' (xs.map (Fw.ren a b)) vs F
  | _, _, _, .nil => .nil
  | _, _, _, .cons h hl => .cons (h.ren hr) (hl.ren hr)
def renRow (a b : Nat) (row : Row) : Row := if row.lk then { row with xs := row.xs.map (ren a b) } else row
def renRows (a b : Nat) (rows : List (Option Row)) : List (Option Row) := rows.map (Option.map (renRow a b))
def renT (a b : Nat) (t : List (Nat × A)) : List (Nat × A) := t.map fun p => (p.1, ren a b p.2)
theorem lk_renT (a b : Nat) : ∀ (t : List (Nat × A)) (i : Nat), lk (renT a b t) i = ren a b (lk t i)
  | [], i => by show A.un = ren a b .un; rw [ren]
  | (k, x) :: l, i => by
    have ih := lk_renT a b l i
    simp only [renT] at ih
    simp only [renT, List.map_cons, lk]
    split
    · rfl
    · exact ih
theorem rowAt_renRows (a b : Nat) (rows : List (Option Row)) (i : Nat) : rowAt (renRows a b rows) i = (rowAt rows i).map (renRow a b) := by
  simp only [rowAt, renRows, List.getElem?_map]
  cases h : rows[i]? with
  | none => rfl
  | some o => cases o <;> rfl
theorem renRow_n (a b : Nat) (row : Row) : (renRow a b row).n = row.n := by unfold renRow; split <;> rfl
theorem renRow_len (a b : Nat) (row : Row) : (renRow a b row).xs.length = row.xs.length := by unfold renRow; split <;> simp
theorem ren_cells (a b : Nat) (x : A) : (ren a b x).cells = x.cells.map (ren a b) := by
  have e1 : ∀ r o l, ren a b (.vw r o l) = .vw (if r = a then b else r) o l := fun r o l => by rw [ren]; split <;> rfl
  have e2 : ∀ r o l, ren a b (.pt r o l) = .pt (if r = a then b else r) o l := fun r o l => by rw [ren]; split <;> rfl
  cases x with
  | vw r o l => simp only [A.cells, List.map_cons, List.map_nil, e1]
  | pt r o l => simp only [A.cells, List.map_cons, List.map_nil, e2]
  | _ => simp only [ren, renL_eq, A.cells, List.map_cons, List.map_nil]
theorem ren_width (a b : Nat) (x : A) : (ren a b x).width = x.width := by simp [A.width, ren_cells]
theorem ren_flat (a b : Nat) (xs : List A) : flat (xs.map (ren a b)) = (flat xs).map (ren a b) := by
  induction xs with
  | nil => rfl
  | cons x xs ih => simp only [flat, List.map_cons, List.flatMap_cons, List.map_append] at *; rw [ih, ren_cells]
/-- Row a becomes row b, where none stood. -/
def State.mv (S : State) (a b : Nat) : State := ⟨renT a b S.t, S.N, ((renRows a b S.rows).set b (((rowAt S.rows a).map (renRow a b)))).set a none⟩
theorem Sbs.mv {a b : Nat} {row : Row} (ha : rowAt S.rows a = some row) (hb : rowAt S.rows b = none) (hlt : b < S.rows.length) : Sbs S (S.mv a b) := by
  intro P E ac w ⟨hd, G, gs, hi⟩
  have hab : a ≠ b := fun e => by rw [e, hb] at ha; cases ha
  have hal := rowAt_lt ha
  have hlen : (renRows a b S.rows).length = S.rows.length := by simp [renRows]
  have hrat : ∀ r, rowAt (S.mv a b).rows r = if r = a then none else if r = b then (rowAt S.rows a).map (renRow a b) else (rowAt S.rows r).map (renRow a b) := fun r => by
    show rowAt (((renRows a b S.rows).set b _).set a none) r = _
    rw [rowAt_set _ _ _ _ (by rw [List.length_set, hlen]; exact hal)]
    split
    · rfl
    · rw [rowAt_set _ _ _ _ (by rw [hlen]; exact hlt)]
      split
      · rfl
      · rw [rowAt_renRows]
  have hcase : ∀ r row', rowAt (S.mv a b).rows r = some row' → ∃ r0 row0, rowAt S.rows r0 = some row0 ∧ row' = renRow a b row0 ∧ r = (if r0 = a then b else r0) ∧ r0 ≠ b ∧ r ≠ a := fun r row' h => by
    rw [hrat] at h
    split at h
    · cases h
    · rename_i h1
      split at h
      · rename_i h2
        rw [ha] at h
        exact ⟨a, row, ha, (Option.some.inj h).symm, by rw [if_pos rfl]; exact h2, hab, h1⟩
      · rename_i h2
        obtain ⟨row0, q1, q2⟩ := Option.map_eq_some_iff.1 h
        exact ⟨r, row0, q1, q2.symm, by rw [if_neg h1], h2, h1⟩
  have hgs : ∀ r0, r0 ≠ b → (fun r => if r = b then gs a else gs r) (if r0 = a then b else r0) = gs r0 := fun r0 h0 => by
    dsimp only
    by_cases h : r0 = a
    · subst h; simp
    · rw [if_neg h, if_neg h0]
  have hren : ∀ r row0, rowAt S.rows r = some row0 → ∃ row', rowAt (S.mv a b).rows (if r = a then b else r) = some row' ∧ (fun r => if r = b then gs a else gs r) (if r = a then b else r) = gs r ∧ row'.n = row0.n ∧ row'.xs.length = row0.xs.length := fun r row0 h => by
    have hrb : r ≠ b := fun e => by rw [e, hb] at h; cases h
    refine ⟨renRow a b row0, ?_, hgs r hrb, renRow_n .., renRow_len ..⟩
    rw [hrat]
    by_cases hra : r = a
    · subst hra
      rw [if_pos rfl, if_neg (fun e => hab e.symm), if_pos rfl, h]; rfl
    · rw [if_neg hra, if_neg hra, if_neg hrb, h]; rfl
  have hall : ∀ r0, r0 ≠ b → Gh.all (fun r => if r = b then gs a else gs r) (if r0 = a then b else r0) = gs.all r0 := fun r0 h0 => by
    have := hgs r0 h0
    simp only [Gh.all] at *
    rw [this]
  refine ⟨hd, G, fun r => if r = b then gs a else gs r, hi.keep, hi.os, hi.tape, hi.output, hi.size, hi.sz, hi.gsub, hi.gnew, hi.glt, fun r row' hr => ?_, fun r row' hr => ?_, fun r row' hr => ?_, fun r r' row' row'' hr hr' hne => ?_, fun i => ?_⟩
  · obtain ⟨r0, row0, h0, rfl, rfl, hb0, hra⟩ := hcase r row' hr
    have hrow := hi.row r0 row0 h0
    have e : (if (if r0 = a then b else r0) = b then gs a else gs (if r0 = a then b else r0)) = gs r0 := hgs r0 hb0
    rw [e]
    generalize (gs r0).1 = ob at hrow
    cases ob with
    | none =>
      obtain ⟨q1, q2⟩ := hrow
      refine ⟨?_, q2⟩
      unfold renRow
      split <;> simp [q1]
    | some c =>
      obtain ⟨cur, ee, cap, h1, h2, h3, h4, h5, h6, h7⟩ := hrow.ex
      unfold CellsRel at h7
      by_cases hl : row0.lk = true
      · have e1 : renRow a b row0 = { row0 with xs := row0.xs.map (ren a b) } := by unfold renRow; rw [if_pos hl]
        rw [e1]
        refine ⟨cur, ee, cap, h1, h2, by simpa using h3, h4, ?_, by simpa using h6, ?_⟩
        · intro x hx
          obtain ⟨y, hy, rfl⟩ := List.mem_map.1 hx
          rw [ren_width]; exact h5 y hy
        · unfold CellsRel
          rw [if_pos hl] at h7
          show if row0.lk = true then _ else _
          rw [if_pos hl, ren_flat]
          simpa using h7.ren hren
      · have e1 : renRow a b row0 = row0 := by unfold renRow; rw [if_neg hl]
        rw [e1]
        refine ⟨cur, ee, cap, h1, h2, h3, h4, h5, h6, ?_⟩
        unfold CellsRel
        rw [if_neg hl] at h7 ⊢
        exact h7
  · obtain ⟨r0, row0, h0, rfl, rfl, hb0, hra⟩ := hcase r row' hr
    rw [hall r0 hb0]; exact hi.nod r0 row0 h0
  · obtain ⟨r0, row0, h0, rfl, rfl, hb0, hra⟩ := hcase r row' hr
    rw [hall r0 hb0]; exact hi.own r0 row0 h0
  · obtain ⟨r0, row0, h0, rfl, rfl, hb0, hra⟩ := hcase r row' hr
    obtain ⟨r1, row1, h1, rfl, rfl, hb1, hra1⟩ := hcase r' row'' hr'
    rw [hall r0 hb0, hall r1 hb1]
    exact hi.dis r0 r1 row0 row1 h0 h1 fun e => hne (by rw [e])
  · show TRel w G (S.mv a b).rows _ (lk (renT a b S.t) i) _ []
    rw [lk_renT]
    exact (hi.tmp i).ren hren
end
end Go.Fw

/- Contracts of a result of which a relation speaks, for what is only read; results frozen. Plain theorems, no condition. -/
set_option linter.unusedVariables false
set_option linter.unusedSimpArgs false
namespace Go.Fw
/-- A contract that tells some result of which R speaks. -/
structure RCtr (P : Program) (g : Nat) (args : List A) (R : A → Prop) : Prop where
  enter : Enter P g
  run : ∀ (w : World) (G : Nat → Prop) (vs : List Value), GoodG P w G → RelL w G args vs [] → Calls P g vs.toArray w (fun e w' => ∃ v F x, R x ∧ e = .returned v ∧ Go.RowKit.Below w.heap.size w w' ∧
    F.Nodup ∧ (∀ b ∈ F, w.heap.size ≤ b) ∧ Rel w' (fun b => (G b ∨ (w.heap.size ≤ b ∧ b < w'.heap.size)) ∧ b ∉ F) x v F)
section
variable {P : Program} {T : Nat → Option TI} {S : State} {Ω : Opq}
theorem PCtr.r {g : Nat} {args : List A} {x : A} (h : PCtr P g args x) {R : A → Prop} (hR : R x) : RCtr P g args R :=
  ⟨h.enter, fun w G vs h1 h2 => Calls.mono (h.run w G vs h1 h2) (by rintro e w' ⟨v, F, rfl, h⟩; exact ⟨v, F, x, hR, rfl, h⟩)⟩
theorem RCtr.p {g : Nat} {args : List A} {x : A} (h : RCtr P g args fun y => y = x) : PCtr P g args x :=
  ⟨h.enter, fun w G vs h1 h2 => Calls.mono (h.run w G vs h1 h2) (by rintro e w' ⟨v, F, y, rfl, rfl, h⟩; exact ⟨v, F, rfl, h⟩)⟩
theorem RCtr.mono {g : Nat} {args : List A} {R R' : A → Prop} (h : RCtr P g args R) (hR : ∀ x, R x → R' x) : RCtr P g args R' :=
  ⟨h.enter, fun w G vs h1 h2 => Calls.mono (h.run w G vs h1 h2) (by rintro e w' ⟨v, F, x, h1, rfl, h⟩; exact ⟨v, F, x, hR _ h1, rfl, h⟩)⟩
theorem RCtr.frz {g : Nat} {args : List A} {R : A → Prop} (h : RCtr P g args R) : RCtr P g args fun x => ∃ y, R y ∧ x = frz y :=
  ⟨h.enter, fun w G vs h1 h2 => Calls.mono (h.run w G vs h1 h2) (by
    rintro e w' ⟨v, F, x, h3, rfl, h4, h5, h6, h7⟩
    exact ⟨v, [], _, ⟨x, h3, rfl⟩, rfl, h4, List.nodup_nil, by simp, h7.frz (fun b hb => ⟨hb.1, by simp⟩) fun b hb => ⟨.inr ⟨h6 b hb, h7.lt b hb⟩, by simp⟩⟩)⟩
theorem PCtr.frz {g : Nat} {args : List A} {x : A} (h : PCtr P g args x) : PCtr P g args (frz x) :=
  ((h.r (R := fun y => y = x) rfl).frz.mono (by rintro x ⟨y, rfl, rfl⟩; rfl)).p
theorem XCtr.r {g : Nat} {args : List A} {R : A → List A → Prop} (h : XCtr P g args R) (hn : args.all noOwn = true) : RCtr P g args fun x => ∃ o, R x o :=
  ⟨h.enter, fun w G vs h1 h2 => Calls.mono (h.run w G vs [] h1 List.nodup_nil (by simp) h2) (by
    rintro e w' ⟨v, Fx, Fo, x, o, h3, rfl, ⟨m1, m2, m3, m4, m5⟩, h5, h6, h7, h8⟩
    have h5' := List.nodup_append.1 h5
    exact ⟨v, Fx, x, ⟨o, h3⟩, rfl, ⟨m1, m2, m3, m4, fun b hb => m5 b hb (by simp)⟩, h5'.1, fun b hb => by simpa using h6 b (by simp [hb]), h7.move_ (fun b hb => ⟨⟨by simpa using hb.1, fun q => hb.2 (by simp [q])⟩, rfl⟩) fun _ _ => rfl⟩)⟩
theorem CallOK_r {g k : Nat} {args ys : List A} {R : A → Prop} {K : A → State → Prop} (hc : RCtr P g ys R) (h1 : args.all isData = true) (h2 : fitA.fitL k args ys)
    (h : ∀ x, R x → noOwn (rootA k S x).1 = true ∧ K (rootA k S x).1 (rootA k S x).2) : CallOK P g args S K := by
  refine ⟨hc.enter, fun E G gs tmps w vs hi hl => ?_⟩
  have hys := fitL_rel (fun x y v F => fitA_rel k x y v F) args ys vs [] h2 (hl.data h1)
  refine Calls.mono (hc.run w G vs hi.glt hys) ?_
  rintro e w' ⟨v, F, x, hx, rfl, hb, hnd, hnew, hr⟩
  have hGF : ∀ b, G b → b ∉ F := fun b h hF => by have := hi.glt b h; have := hnew b hF; omega
  obtain ⟨gs', g1, g2⟩ := adopt_new hi hb hnd hnew (fun b h => ⟨.inl h, hGF b h⟩) (fun b h => ⟨h.1.imp id And.left, h.2⟩)
    (fun b h => h.1.elim (fun h => Nat.lt_of_lt_of_le (hi.glt b h) hb.size) And.right) hr k (h x hx).1
  exact ⟨v, _, _, _, gs', rfl, (h x hx).2, g1, g2⟩
theorem CallOK_rp {g k : Nat} {args ys0 ys : List A} {R : A → Prop} {K : A → State → Prop} (hc : RCtr P g ys R) (h1 : mapO (roO S k) args = some ys0) (h2 : fitA.fitL k ys0 ys)
    (h : ∀ x, R x → roFree x = true ∧ noOwn (rootA k S x).1 = true ∧ K (rootA k S x).1 (rootA k S x).2) : CallOK P g args S K := by
  refine ⟨hc.enter, fun E G gs tmps w vs hi hl => ?_⟩
  have hys := fitL_rel (fun x y v F => fitA_rel k x y v F) ys0 ys vs [] h2 (mapO_rel (fun x v F y h hy => roO_rel hi k x v F y h hy) hl h1)
  refine Calls.mono (hc.run w (Old w) vs hi.glt.old hys) ?_
  rintro e w' ⟨v, F, x, hx, rfl, hb, hnd, hnew, hr⟩
  obtain ⟨hx, hno, hK⟩ := h x hx
  have hr' : Rel w' (fun b => G b ∧ b ∉ F) x v F := hr.anyG hx _
  have hGF : ∀ b, G b → b ∉ F := fun b h hF => by have := hi.glt b h; have := hnew b hF; omega
  obtain ⟨gs', g1, g2⟩ := adopt_new hi hb hnd hnew (G' := fun b => G b ∧ b ∉ F) (fun b h => ⟨h, hGF b h⟩) (fun b h => ⟨.inl h.1, h.2⟩) (fun b h => Nat.lt_of_lt_of_le (hi.glt b h.1) hb.size) hr' k hno
  exact ⟨v, _, _, _, gs', rfl, hK, g1, g2⟩
theorem call_r (hΩ : Ω = std) (k : Nat) {g : Nat} {args ys : List A} {R : A → Prop} {K : A → State → Prop} (hc : RCtr P g ys R) (h1 : args.all isData = true) (h2 : fitA.fitL k args ys)
    (h : ∀ x, R x → noOwn (rootO Ω k S x).1 = true ∧ K (rootO Ω k S x).1 (rootO Ω k S x).2) : CallX P g args S K := by
  subst hΩ
  exact ⟨CallOK_r (k := k) hc h1 h2 fun x hx => by simp only [← rootO_std]; exact h x hx⟩
theorem call_rp (hΩ : Ω = std) (k : Nat) {g : Nat} {args ys0 ys : List A} {R : A → Prop} {K : A → State → Prop} (hc : RCtr P g ys R) (h1 : mapO (roO S k) args = some ys0) (h2 : fitA.fitL k ys0 ys)
    (h : ∀ x, R x → roFree x = true ∧ noOwn (rootO Ω k S x).1 = true ∧ K (rootO Ω k S x).1 (rootO Ω k S x).2) : CallX P g args S K := by
  subst hΩ
  exact ⟨CallOK_rp (k := k) hc h1 h2 fun x hx => by simp only [← rootO_std]; exact h x hx⟩
theorem CallOK_rf {g k : Nat} {args ys0 ys : List A} {R : A → Prop} {K : A → State → Prop} (hc : RCtr P g ys R) (h1 : mapO (roO S k) args = some ys0) (h2 : fitA.fitL k ys0 ys)
    (h : ∀ x, R x → roFree x = true ∧ noOwn (rootA k S (Fw.frz x)).1 = true ∧ K (rootA k S (Fw.frz x)).1 (rootA k S (Fw.frz x)).2) : CallOK P g args S K := by
  refine ⟨hc.enter, fun E G gs tmps w vs hi hl => ?_⟩
  have hys := fitL_rel (fun x y v F => fitA_rel k x y v F) ys0 ys vs [] h2 (mapO_rel (fun x v F y h hy => roO_rel hi k x v F y h hy) hl h1)
  refine Calls.mono (hc.run w (Old w) vs hi.glt.old hys) ?_
  rintro e w' ⟨v, F, x, hx, rfl, hb, hnd, hnew, hr⟩
  obtain ⟨hx, hno, hK⟩ := h x hx
  have hr' : Rel w' (fun b => G b ∧ b ∉ F) x v F := hr.anyG hx _
  have hr2 : Rel w' (fun b => (G b ∨ b ∈ F) ∧ b ∉ ([] : List Nat)) (Fw.frz x) v [] := hr'.frz (fun b hb => ⟨.inl hb.1, by simp⟩) fun b hb => ⟨.inr hb, by simp⟩
  obtain ⟨gs', g1, g2⟩ := adopt_new hi hb List.nodup_nil (by simp) (fun b h => ⟨.inl h, by simp⟩) (fun b h => ⟨h.1.imp id (hnew b), h.2⟩)
    (fun b h => h.1.elim (fun h => Nat.lt_of_lt_of_le (hi.glt b h) hb.size) (hr.lt b)) hr2 k hno
  exact ⟨v, _, _, _, gs', rfl, hK, g1, g2⟩
/-- The result is frozen. -/
theorem call_rf (hΩ : Ω = std) (k : Nat) {g : Nat} {args ys0 ys : List A} {R : A → Prop} {K : A → State → Prop} (hc : RCtr P g ys R) (h1 : mapO (roO S k) args = some ys0) (h2 : fitA.fitL k ys0 ys)
    (h : ∀ x, R x → roFree x = true ∧ noOwn (rootO Ω k S (Fw.frz x)).1 = true ∧ K (rootO Ω k S (Fw.frz x)).1 (rootO Ω k S (Fw.frz x)).2) : CallX P g args S K := by
  subst hΩ
  exact ⟨CallOK_rf (k := k) hc h1 h2 fun x hx => by simp only [← rootO_std]; exact h x hx⟩
theorem call_pf (hΩ : Ω = std) (k : Nat) {g : Nat} {args ys0 ys : List A} {x y : A} {K : A → State → Prop} (hc : PCtr P g ys x) (h1 : mapO (roO S k) args = some ys0) (h2 : fitA.fitL k ys0 ys) (hx : roFree x = true) (hy : Fw.frz x = y)
    (hno : noOwn (rootO Ω k S y).1 = true) (hK : K (rootO Ω k S y).1 (rootO Ω k S y).2) : CallX P g args S K :=
  call_rf hΩ k (hc.r (R := fun z => z = x) rfl) h1 h2 fun z hz => by subst hz; subst hy; exact ⟨hx, hno, hK⟩
/-- A walk of the body gives the contract. -/
theorem RCtr.of {g : Nat} {c : Code} {N : Nat} {rs : List ResultVar} {xs : List A} {R : A → Prop} (hf : FnAt P g c N rs) (hN : xs.length ≤ N) (h : VC P c (entryS N xs) (fun e S => ∃ x, R x ∧ outK P rs x e S)) : RCtr P g xs R := by
  obtain ⟨hen, fn, h1, h2, h3, h4⟩ := hf
  refine ⟨hen, fun w G vs hG hl => ?_⟩
  have hlen := hl.length
  refine calls_of_wp h1 h2 ?_
  have hinv : Inv (P := P) ⟨w, G, fun _ => False, fun _ => undef⟩ G (fun _ => (none, [])) (entryS N xs) (vs.toArray ++ Array.replicate (fn.ntmps - vs.toArray.size) undef) w := by
    refine ⟨fun _ _ _ => rfl, rfl, rfl, rfl, Nat.le_refl _, ?_, fun _ h => h, fun _ h => .inl h, hG, ?_, ?_, ?_, ?_, fun i => ?_⟩
    · simp [entryS, h3]; omega
    · intro r row hr; simp [entryS, rowAt] at hr
    · intro r row hr; simp [entryS, rowAt] at hr
    · intro r row hr; simp [entryS, rowAt] at hr
    · intro r r' row row' hr; simp [entryS, rowAt] at hr
    · show TRel w G [] _ (lk (entryT 0 xs) i) _ []
      rw [lk_entryT, if_pos (Nat.zero_le _), Nat.sub_zero]
      unfold vat
      by_cases hi : i < xs.length
      · obtain ⟨v, hv, hr⟩ := hl.get i xs[i] (List.getElem?_eq_getElem hi)
        rw [List.getD_eq_getElem?_getD, List.getElem?_eq_getElem hi]
        have : (vs.toArray ++ Array.replicate (fn.ntmps - vs.toArray.size) undef).getD i undef = v := by
          rw [Array.getD_eq_getD_getElem?, Array.getElem?_append_left (by simp; omega)]
          simp [hv]
        rw [if_pos (by simp; omega), this]; exact .of hr
      · rw [List.getD_eq_getElem?_getD, List.getElem?_eq_none (by omega)]
        exact .un
  refine wp_mono (h _ { tmps := vs.toArray ++ Array.replicate (fn.ntmps - vs.toArray.size) undef, defers := [] } w ⟨rfl, G, _, hinv⟩) ?_
  rintro e a' w' ⟨S', ⟨hd, G', gs', hi'⟩, x, hR, hK⟩
  have fin : Outs P rs x S' → a'.defers = [] ∧ ∃ v, (results fn a'.tmps).run P w' = .ok v w' ∧ (∃ v_1 F y, R y ∧ Ending.returned v = .returned v_1 ∧ Go.RowKit.Below w.heap.size w w' ∧
      F.Nodup ∧ (∀ b ∈ F, w.heap.size ≤ b) ∧ Rel w' (fun b => (G b ∨ (w.heap.size ≤ b ∧ b < w'.heap.size)) ∧ b ∉ F) y v_1 F) := by
    intro ho
    refine ⟨hd, ?_⟩
    obtain ⟨vs', zs, F, k, g1, g2, g3, g4, g5⟩ := ho _ _ _ _ _ hi'
    have hres := fitA_rel k _ _ _ _ g5 (oneA_rel g2)
    refine ⟨oneV vs', h4 _ _ _ g1, _, F, x, hR, rfl, ⟨hi'.os, hi'.tape, hi'.output, hi'.size, fun b hb => hi'.keep b hb id⟩, g3, fun b hb => ?_, ?_⟩
    · rcases (g4 b hb).2 with h | h
      · exact h.elim
      · exact h
    · refine hres.move_ (fun b hb => ⟨⟨?_, fun hF => (g4 b hF).1 hb⟩, rfl⟩) (fun b hb => rfl)
      rcases hi'.gnew b hb with h | h | h
      · exact .inl h
      · exact h.elim
      · exact .inr ⟨h, hi'.glt b hb⟩
  cases e with
  | normal => exact fin hK
  | ret => exact fin hK
  | _ => exact hK.elim
theorem RCtr.walk (hT : TabOK P T) (hΩ : Ω = std) {g : Nat} {c : Code} {N : Nat} {rs : List ResultVar} {xs : List A} {R : A → Prop} (hf : FnAt P g c N rs) (hN : Nat.ble xs.length N = true)
    (h : vC Ω P T c (entryS N xs) (fun e S => ∃ x, R x ∧ outV Ω T rs x e S)) : RCtr P g xs R :=
  RCtr.of hf (Nat.le_of_ble_eq_true hN) (VC.mono (vstart hT hΩ h) fun e S' ⟨x, hR, h⟩ => ⟨x, hR, outV_ok hT (hΩ ▸ h)⟩)
end
end Go.Fw

/- Regions that draw their order, of which the operations that do something may stand in a few orders. Plain theorems, no condition. -/
set_option linter.unusedVariables false
set_option linter.unusedSimpArgs false
namespace Go.Fw
/-- The orders that may come. -/
inductive Ord where
  | fin
  | step (n : Nat) (o : Ord)
  | two (n : Nat) (o : Ord) (m : Nat) (p : Ord)
def Ord.depth : Ord → Nat
  | .fin => 0
  | .step _ o => o.depth + 1
  | .two _ o _ _ => o.depth + 1
section
variable {P : Program} {T : Nat → Option TI} {S : State} {Ω : Opq}
def vOne (Ω : Opq) (P : Program) (T : Nat → Option TI) (ops : List Oper) (mv : Option Nat) (n : Nat) (S : State) (k : Option Nat → State → Prop) : Prop :=
  match ops[n]? with
    | some o => (match o.guard with
      | none => vOp Ω P T mv o S fun S' => k (madeBy o) S'
      | some _ => False)
    | none => False
def vOrd (Ω : Opq) (P : Program) (T : Nat → Option TI) (ops : List Oper) : Ord → Option Nat → State → (State → Prop) → Prop
  | .fin, _, S, K => K S
  | .step n o, mv, S, K => vOne Ω P T ops mv n S fun mv' S' => vOrd Ω P T ops o mv' S' K
  | .two n o m p, mv, S, K => (vOne Ω P T ops mv n S fun mv' S' => vOrd Ω P T ops o mv' S' K) ∧ (vOne Ω P T ops mv m S fun mv' S' => vOrd Ω P T ops p mv' S' K)
def heldO (ops : Array Oper) : Ord → Array Bool → Bool
  | .fin, l => (Region.ready .any ops l).isEmpty
  | .step n o, l => decide (Region.ready .any ops l = [n]) && heldO ops o (l.setIfInBounds n true)
  | .two n o m p, l => decide (Region.ready .any ops l = [n, m]) && decide (o.depth = p.depth) && heldO ops o (l.setIfInBounds n true) && heldO ops p (l.setIfInBounds m true)
def heldQO (ops : Array Oper) (o : Ord) : List Nat → Array Bool → Bool
  | [], l => heldO ops o l
  | q :: qs, l => (Region.ready .any ops l).contains q && Region.free .any ops l q && heldQO ops o qs (l.setIfInBounds q true)
def heldOB (ops : Array Oper) (qs : List Nat) (o : Ord) : Bool :=
  Region.noSelect ops && decide (qs.length + o.depth = ops.size) && heldQO ops o qs (Array.replicate ops.size false)
theorem vOne_ok (hT : TabOK P T) {ops : List Oper} {E : Env P} {mv : Option Nat} {n : Nat} {S : State} {k : Option Nat → State → Prop} (h : vOne std P T ops mv n S k) {a : Act} {w : World} (hs : SInv E S a w)
    {K' : Act → World → Prop} {Q : Exit → Act → World → Prop} (hk : ∀ mv' S' a' w', k mv' S' → SInv E S' a' w' → K' a' w') : wpOp P ops.toArray Q n K' a w := by
  unfold vOne at h
  split at h <;> try exact h.elim
  rename_i o ho
  split at h <;> try exact h.elim
  rename_i hg
  unfold wpOp
  rw [show ops.toArray[n]? = some o by simpa using ho]
  simp only
  rw [if_pos (by simp [Region.wanted, hg])]
  exact .inl (vOp_ok hT h E a w _ _ hs fun S' a' w' hK hs' => hk _ S' a' w' hK hs')
theorem heldO_ok (hT : TabOK P T) {ops : List Oper} {E : Env P} {Sc : World → Prop} (hSc : ∀ S a w, SInv E S a w → Sc w) {K : State → Prop} : ∀ (o : Ord) (listed : Array Bool) (mv : Option Nat) (S : State) (a : Act) (w : World), heldO ops.toArray o listed = true →
    vOrd std P T ops o mv S K → SInv E S a w → wpAnyH P .any ops.toArray (fun e a' w' => e = .normal ∧ ∃ S', SInv E S' a' w' ∧ K S') Sc o.depth listed a w
  | .fin, listed, mv, S, a, w, hB, h, hs => ⟨by simpa [heldO] using hB, rfl, S, hs, h⟩
  | .step n o, listed, mv, S, a, w, hB, h, hs => by
    simp only [heldO, Bool.and_eq_true, decide_eq_true_eq] at hB
    unfold vOrd at h
    refine wpAnyH_all hB.1 (by simp) fun i hi => ?_
    have hin : i = n := by simpa using hi
    subst hin
    exact vOne_ok hT h hs fun mv' S' a' w' hK hs' => ⟨hSc _ _ _ hs', heldO_ok hT hSc o _ _ S' a' w' hB.2 hK hs'⟩
  | .two n o m p, listed, mv, S, a, w, hB, h, hs => by
    simp only [heldO, Bool.and_eq_true, decide_eq_true_eq] at hB
    unfold vOrd at h
    refine wpAnyH_all hB.1.1.1 (by simp) fun i hi => ?_
    have hin : i = n ∨ i = m := by simpa using hi
    rcases hin with rfl | rfl
    · exact vOne_ok hT h.1 hs fun mv' S' a' w' hK hs' => ⟨hSc _ _ _ hs', heldO_ok hT hSc o _ _ S' a' w' hB.1.2 hK hs'⟩
    · exact vOne_ok hT h.2 hs fun mv' S' a' w' hK hs' => ⟨hSc _ _ _ hs', by rw [hB.1.1.2]; exact heldO_ok hT hSc p _ _ S' a' w' hB.2 hK hs'⟩
theorem heldQO_ok (hT : TabOK P T) {ops : List Oper} {E : Env P} {G : Nat → Prop} {gs : Gh} {w : World} {Q : Exit → Act → World → Prop} (hQ : ∀ c a w, ¬ Q (.panic c) a w) (hsel : Region.noSelect ops.toArray = true) {o : Ord} {K : State → Prop}
    (hK : ∀ S a listed, heldO ops.toArray o listed = true → K S → a.defers = [] → Inv E G gs S a.tmps w → wpAnyH P .any ops.toArray Q (Agree G w) o.depth listed a w) : ∀ (qs : List Nat) (listed : Array Bool) (S : State) (a : Act), heldQO ops.toArray o qs listed = true →
    vGs std T ops qs S K → a.defers = [] → Inv E G gs S a.tmps w → wpAnyH P .any ops.toArray Q (Agree G w) (qs.length + o.depth) listed a w
  | [], listed, S, a, hB, h, hd, hi => by rw [List.length_nil, Nat.zero_add]; exact hK S a listed hB h hd hi
  | q :: qs, listed, S, a, hB, h, hd, hi => by
    simp only [heldQO, Bool.and_eq_true] at hB
    unfold vGs at h
    split at h <;> try exact h.elim
    rename_i u ho
    split at h <;> try exact h.elim
    rename_i hg
    obtain ⟨z, h1, h2⟩ := vGOp_ok hT h
    obtain ⟨v, h3, h4⟩ := h1 E G gs a w hi
    rw [List.length_cons, show qs.length + 1 + o.depth = (qs.length + o.depth) + 1 by omega]
    refine wpAnyH_take (oi := u) (v := v) (by simpa using ho) hsel hB.1.2 hB.1.1 (fun c a w h => (hQ _ _ _ h).elim) (.inl ⟨by simp [Region.wanted, hg], h3⟩) (fun _ _ => rfl) ?_
    exact heldQO_ok hT hQ hsel hK qs _ _ _ hB.2 h2 (by rw [put_defers]; exact hd) (hi.put h4 u.dst)
/-- A region that draws its order: the operations qs only read what nobody in it writes; the others stand in the orders o. -/
theorem VC_order (hT : TabOK P T) (hΩ : Ω = std) (hm : P.follows .mixedOrders = true) (qs : List Nat) (o : Ord) {id : Nat} {ops : Array Oper} {K : Exit → State → Prop} (hB : heldOB ops qs o = true)
    (h : vGs Ω T ops.toList qs S fun S' => vOrd Ω P T ops.toList o none S' (K .normal)) : VC P (.region id ops true) S K := by
  subst hΩ
  intro E a w hs
  have hops : ops = ops.toList.toArray := by simp
  rw [hops] at hB ⊢
  obtain ⟨hd, G, gs, hi⟩ := hs
  simp only [heldOB, Bool.and_eq_true, decide_eq_true_eq] at hB
  obtain ⟨⟨hsel, hsz⟩, hB⟩ := hB
  have hw1 : Go.RowKit.Below w.heap.size w { w with drawn := w.drawn + 1 } := ⟨rfl, rfl, rfl, Nat.le_refl _, fun _ _ => rfl⟩
  have hi1 : Inv E G gs S a.tmps { w with drawn := w.drawn + 1 } := hi.below hw1 (fun _ h => h) (fun _ h => .inl h) (fun b h => Nat.lt_of_lt_of_le (hi.glt b h) hw1.size)
  have hwp : (Code.region id ops.toList.toArray true).wp P (fun e a' w' => e = .normal ∧ ∃ S', SInv (envAt E G gs S { w with drawn := w.drawn + 1 }) S' a' w' ∧ K .normal S') a w := by
    refine wp_region_held (S := Agree G { w with drawn := w.drawn + 1 }) hm ?_
    rw [show ops.toList.toArray.size = qs.length + o.depth from hsz.symm]
    rw [show ops.toList.toArray.size = qs.length + o.depth from hsz.symm] at hB
    refine heldQO_ok hT (fun c a w h => by cases h.1) hsel (fun S2 a2 listed hB2 hK2 hd2 hi2 => ?_) qs _ S a hB h hd hi1.at
    refine heldO_ok hT (fun S3 a3 w3 hs3 => ?_) o listed none S2 a2 _ hB2 hK2 ⟨hd2, G, gs, hi2⟩
    obtain ⟨_, G3, gs3, hi3⟩ := hs3
    exact hi1.agree hi3
  refine wp_mono hwp ?_
  rintro e a' w' ⟨rfl, S', ⟨hd', G', gs', hi'⟩, hK'⟩
  exact ⟨S', ⟨hd', G', gs', hi1.back hi'⟩, hK'⟩
theorem ord_ok (hT : TabOK P T) {ops : List Oper} {Q : Exit → Act → World → Prop} {kp : Nat → Bool} {Sc : World → Prop} {E : Env P} (hSc : ∀ S a w, SInv E S a w → Sc w) {K : State → Prop} (hK : ∀ S a w, K S → SInv E S a w → Q .normal a w) : ∀ (o : Ord) (l : Array Bool) (mv : Option Nat) (S : State) (a : Act) (w : World), heldO ops.toArray o l = true →
    vOrd std P T ops o mv S K → SInv E S a w → anyK P .any ops.toArray Q kp Sc o.depth l a w
  | .fin, l, mv, S, a, w, hB, h, hs => ⟨by simpa [heldO] using hB, hK S a w h hs⟩
  | .step n o, l, mv, S, a, w, hB, h, hs => by
    simp only [heldO, Bool.and_eq_true, decide_eq_true_eq] at hB
    unfold vOrd at h
    refine ⟨fun h0 => (by rw [hB.1] at h0; cases h0), fun i hi => ?_⟩
    rw [hB.1] at hi
    have hin : i = n := by simpa using hi
    subst hin
    exact vOne_ok hT h hs fun mv' S' a' w' hK' hs' => ⟨fun _ => hSc _ _ _ hs', ord_ok hT hSc hK o _ _ S' a' w' hB.2 hK' hs'⟩
  | .two n o m p, l, mv, S, a, w, hB, h, hs => by
    simp only [heldO, Bool.and_eq_true, decide_eq_true_eq] at hB
    unfold vOrd at h
    refine ⟨fun h0 => (by rw [hB.1.1.1] at h0; cases h0), fun i hi => ?_⟩
    rw [hB.1.1.1] at hi
    have hin : i = n ∨ i = m := by simpa using hi
    rcases hin with rfl | rfl
    · exact vOne_ok hT h.1 hs fun mv' S' a' w' hK' hs' => ⟨fun _ => hSc _ _ _ hs', ord_ok hT hSc hK o _ _ S' a' w' hB.1.2 hK' hs'⟩
    · exact vOne_ok hT h.2 hs fun mv' S' a' w' hK' hs' => ⟨fun _ => hSc _ _ _ hs', by rw [hB.1.1.2]; exact ord_ok hT hSc hK p _ _ S' a' w' hB.2 hK' hs'⟩
def lordB (ops : Array Oper) (qs : List Nat) (o : Ord) : Bool :=
  Region.noSelect ops && (decide (qs.length + o.depth = ops.size) && (quietB ops (fun _ => true) qs (Array.replicate ops.size false) && heldO ops o (listAll qs (Array.replicate ops.size false))))
/-- A region that draws its order: qs read rows rs; the others, in the orders o, leave these alone. -/
theorem VC_lord (hT : TabOK P T) (hΩ : Ω = std) (hm : P.follows .mixedOrders = true) (qs : List Nat) (o : Ord) (rs hs : List Nat) {id : Nat} {ops : Array Oper} {K : Exit → State → Prop} (hB : lordB ops qs o = true)
    (h : vRs Ω T rs ops.toList qs S fun S1 => lendB S1 rs hs = true ∧ ∀ vs : Nat → Value, vOrd Ω P T ops.toList o none (S1.lend rs hs vs) fun S2 => keptA S2 vs hs ∧ backB S2 rs = true ∧
      K .normal (S2.unlend S1 rs hs)) : VC P (.region id ops true) S K := by
  subst hΩ
  intro E a w hs0
  have hops : ops = ops.toList.toArray := by simp
  rw [hops] at hB ⊢
  obtain ⟨hd, G, gs, hi⟩ := hs0
  simp only [lordB, Bool.and_eq_true, decide_eq_true_eq] at hB
  obtain ⟨hsel, hsz, hq, hc1⟩ := hB
  have hw1 : Go.RowKit.Below w.heap.size w { w with drawn := w.drawn + 1 } := ⟨rfl, rfl, rfl, Nat.le_refl _, fun _ _ => rfl⟩
  have hi1 : Inv E G gs S a.tmps { w with drawn := w.drawn + 1 } := hi.below hw1 (fun _ h => h) (fun _ h => .inl h) (fun b h => Nat.lt_of_lt_of_le (hi.glt b h) hw1.size)
  generalize hw1e : { w with drawn := w.drawn + 1 } = w1 at *
  have hwp : wpAny P .any ops.toList.toArray (fun e a' w' => e = .normal ∧ ∃ S', (∃ S1, S1.rows = S.rows ∧ SInv (envAt E G gs S1 w1) S' a' w') ∧ K .normal S') ops.toList.toArray.size (Array.replicate ops.toList.toArray.size false) a w1 := by
    refine any_of_K (kp := fun _ => true) (Sc := AgreeR G gs rs w1) _ _ _ _ ?_
    refine Eq.mp (congrArg (fun n => anyK P .any ops.toList.toArray _ _ _ n (Array.replicate ops.toList.toArray.size false) a w1) hsz) ?_
    refine quiet_ok (rs := rs) hT (fun c a w h => by cases h.1) hsel qs _ S a hq h hd hi1 ?_
    rintro S1 a1 ⟨hl, hvs⟩ hr1 hd1 hi2
    simp only [lendB, Bool.and_eq_true, decide_eq_true_eq, List.all_eq_true] at hl
    obtain ⟨hnd, hrows, hhs⟩ := hl
    have hrow : ∀ r ∈ rs, ∃ row, rowAt S1.rows r = some row ∧ rowOnly rs row = true := fun r hr => by
      have := hrows r hr
      split at this
      · rename_i row h; exact ⟨row, h, this⟩
      · cases this
    obtain ⟨gs0, hl1, hl2, hl3⟩ := hi2.lend (rs := rs) (hs := hs) hnd (fun r hr => let ⟨row, h, _⟩ := hrow r hr; ⟨row, h⟩) (fun i hi => (hhs i hi).1)
    have hSc : ∀ S' a' w', SInv (envL E G gs gs0 S1 rs a1.tmps w1) S' a' w' → AgreeR G gs rs w1 w' := fun S' a' w' ⟨_, G', gs', hi'⟩ => by
      have hcore := lent_agree hi2 hl2 hl3 hi' (fun r hr => let ⟨row, h, _⟩ := hrow r hr; ⟨row, h⟩)
      exact hcore
    refine ord_ok hT hSc (K := fun S2 => keptA S2 (vat E a1.tmps) hs ∧ backB S2 rs = true ∧ K .normal (S2.unlend S1 rs hs)) ?_ o _ none _ a1 w1 hc1 (hvs (vat E a1.tmps)) ⟨hd1, G, gs0, hl1⟩
    rintro S2 a2 w2 ⟨hk, hb, hn2⟩ ⟨hd2, G2, gs2, hi3⟩
    simp only [backB, List.all_eq_true, Bool.and_eq_true, decide_eq_true_eq] at hb
    obtain ⟨hu, _⟩ := hi2.unlend (hs := hs) hl2 hl3 hi3 (keptA_spec hk) (fun r hr => by
      obtain ⟨h1, h2⟩ := hb r hr
      refine ⟨?_, h2⟩
      split at h1
      · assumption
      · cases h1) (fun i hi => (hhs i hi).2) hrow
    exact ⟨rfl, _, ⟨S1, hr1, hd2, G2, _, hu⟩, hn2⟩
  have hwp2 : (Code.region id ops.toList.toArray true).wp P (fun e a' w' => e = .normal ∧ ∃ S', (∃ S1, S1.rows = S.rows ∧ SInv (envAt E G gs S1 w1) S' a' w') ∧ K .normal S') a w := wp_region_any hm (by rw [hw1e]; exact hwp)
  refine wp_mono hwp2 ?_
  rintro e a' w' ⟨rfl, S', ⟨S1, hr1, hd', G', gs', hi'⟩, hK'⟩
  have e2 : envAt E G gs S1 w1 = envAt E G gs S w1 := by unfold envAt; rw [hr1]
  rw [e2] at hi'
  exact ⟨S', ⟨hd', G', gs', hi1.back hi'⟩, hK'⟩
end
end Go.Fw

/- Regions that draw their order, taken by a plan: operations that only read, calls, orders, guards. Plain theorems, no condition. -/
set_option linter.unusedVariables false
set_option linter.unusedSimpArgs false
namespace Go.Fw
/-- A plan: q: an operation that only reads; s: the one that must come; two: one of two. -/
inductive Pln where
  | fin
  | q (n : Nat) (p : Pln)
  | s (n : Nat) (p : Pln)
  | two (n : Nat) (p : Pln) (m : Nat) (r : Pln)
def Pln.depth : Pln → Nat
  | .fin => 0
  | .q _ p => p.depth + 1
  | .s _ p => p.depth + 1
  | .two _ p _ _ => p.depth + 1
def Pln.qs : List Nat → Pln → Pln
  | [], p => p
  | n :: ns, p => .q n (Pln.qs ns p)
section
variable {P : Program} {T : Nat → Option TI} {S : State} {Ω : Opq}
def planB (ops : Array Oper) : Pln → Array Bool → Bool
  | .fin, l => (Region.ready .any ops l).isEmpty
  | .q n p, l => (Region.ready .any ops l).contains n && Region.free .any ops l n && planB ops p (l.setIfInBounds n true)
  | .s n p, l => decide (Region.ready .any ops l = [n]) && planB ops p (l.setIfInBounds n true)
  | .two n p m r, l => decide (Region.ready .any ops l = [n, m]) && decide (p.depth = r.depth) && planB ops p (l.setIfInBounds n true) && planB ops r (l.setIfInBounds m true)
def planOK (ops : Array Oper) (p : Pln) : Bool := Region.noSelect ops && decide (p.depth = ops.size) && planB ops p (Array.replicate ops.size false)
def noRowsB (rows : List (Option Row)) : Bool := rows.all Option.isNone
theorem noRows_at {rows : List (Option Row)} (h : noRowsB rows = true) (r : Nat) : rowAt rows r = none := by
  unfold rowAt
  cases hr : rows[r]? with
  | none => rfl
  | some o =>
    have := List.all_eq_true.1 h o (List.mem_of_getElem? hr)
    cases o with
    | none => rfl
    | some _ => cases this
def vPOp (Ω : Opq) (P : Program) (T : Nat → Option TI) (o : Oper) (S : State) (k : A → Prop) : Prop :=
  match o.op with
  | .move x => k (ev S x)
  | .assign x => k (ev S x)
  | .pick c x y => vPick Ω (ev S c) (ev S x) (ev S y) k
  | .unOp op _ x => vUn Ω op (ev S x) k
  | .binOp op t x y _ => vBinA Ω P T op t (ev S x) (ev S y) k
  | .load t x => vLoad T t S (ev S x) k
  | .fieldAddr t x i => vFieldAddr T t i (ev S x) k
  | .field t x i => vField T t i (ev S x) k
  | .indexAddr t x y => vIndexAddr Ω T t S (ev S x) (ev S y) k
  | .index t x y => vIndex Ω T t (ev S x) (ev S y) k
  | .extract x i => vExtract (ev S x) i k
  | .nilCheck x => vNilCheck (ev S x) k
  | .build t parts => vBuild T t (parts.toList.map fun p => (p.1, ev S p.2)) k
  | .slice t x lo hi none => vSlice Ω T t S (ev S x) (lo.map (ev S)) (hi.map (ev S)) k
  | .convert src dst x => vConv Ω T src dst S (ev S x) k
  | .makeFunc f first caps => vMakeFn f (first.toList.map (ev S)) (caps.toList.map (ev S)) k
  | .call c => (match c.callee, c.args.toList, c.argTypes.toList with
    | .builtin .len, [x], [t] => vLen Ω T t (ev S x) k
    | _, _, _ => False)
  | _ => False
/-- Under a guard: done, or passed over. -/
def vGd (ops : List Oper) (o : Oper) (S : State) (X Y : State → Prop) : Prop :=
  match o.guard with
  | none => X S
  | some (j, b) =>
    match guardAt ops j with
    | none => False
    | some i => if i < S.N then (match lk S.t i with
      | .sc (.bool p) => brB p
          (fun _ => match b with
            | true => X (S.put (some i) (.sc (.bool true)))
            | false => Y (S.put (some i) (.sc (.bool true))))
          (fun _ => match b with
            | true => Y (S.put (some i) (.sc (.bool false)))
            | false => X (S.put (some i) (.sc (.bool false))))
      | .tup [] => Y S
      | _ => False) else False
def vPlan (Ω : Opq) (P : Program) (T : Nat → Option TI) (ops : List Oper) : Pln → Option Nat → State → (State → Prop) → Prop
  | .fin, _, S, K => K S
  | .q n p, mv, S, K => (match ops[n]? with
    | some o => vGd ops o S (fun S => noRowsB S.rows = true ∧ vPOp Ω P T o S fun z => vPlan Ω P T ops p mv (S.put o.dst z) K) (fun S => noRowsB S.rows = true ∧ vPlan Ω P T ops p mv (S.put o.dst (.tup [])) K)
    | none => False)
  | .s n p, mv, S, K => (match ops[n]? with
    | some o => vGd ops o S (fun S => vOp Ω P T mv o S fun S' => vPlan Ω P T ops p (madeBy o) S' K) (fun S => vPlan Ω P T ops p none (S.put o.dst (.tup [])) K)
    | none => False)
  | .two n p m r, mv, S, K => (match ops[n]?, ops[m]? with
    | some o, some o' => vGd ops o S (fun S => vOp Ω P T mv o S fun S' => vPlan Ω P T ops p (madeBy o) S' K) (fun S => vPlan Ω P T ops p none (S.put o.dst (.tup [])) K) ∧
        vGd ops o' S (fun S => vOp Ω P T mv o' S fun S' => vPlan Ω P T ops r (madeBy o') S' K) (fun S => vPlan Ω P T ops r none (S.put o'.dst (.tup [])) K)
    | _, _ => False)
theorem vPOp_ok (hT : TabOK P T) {o : Oper} {k : A → Prop} (h : vPOp std P T o S k) : ∃ z, VOK P o S z ∧ k z := by
  unfold vPOp at h
  split at h
  · rename_i x ho; exact ⟨_, VOK_move (.inl ho) rfl, h⟩
  · rename_i x ho; exact ⟨_, VOK_move (.inr ho) rfl, h⟩
  · rename_i ho; exact vPick_ok ho h
  · rename_i ho; exact vUn_ok ho h
  · rename_i ho; exact vBinA_ok hT ho h
  · rename_i ho; exact vLoad_ok hT ho h
  · rename_i ho; exact vFieldAddr_ok hT ho h
  · rename_i ho; exact vField_ok hT ho h
  · rename_i ho; exact vIndexAddr_ok hT ho h
  · rename_i ho; exact vIndex_ok hT ho h
  · rename_i ho; exact vExtract_ok ho h
  · rename_i ho; exact vNilCheck_ok ho h
  · rename_i ho; exact vBuild_ok hT ho h
  · rename_i ho; exact vSlice_ok hT ho h
  · rename_i ho; exact vConv_ok hT ho h
  · rename_i ho; exact vMakeFn_ok ho h
  · rename_i c ho
    split at h <;> try exact h.elim
    rename_i x t h1 h2 h3
    exact vLen_ok hT ho h1 h2 h3 h
  · exact h.elim
/-- What a guard says. -/
theorem vGd_ok {ops : List Oper} {o : Oper} {X Y : State → Prop} (h : vGd ops o S X Y) {E : Env P} {G : Nat → Prop} {gs : Gh} {a : Act} {w : World} (hi : Inv E G gs S a.tmps w) :
    ∃ S', S'.rows = S.rows ∧ Inv E G gs S' a.tmps w ∧ ((Region.wanted o (yielded ops.toArray a.tmps) = true ∧ X S') ∨ (Region.wanted o (yielded ops.toArray a.tmps) = false ∧ Y S')) := by
  unfold vGd at h
  split at h
  · rename_i hg; exact ⟨S, rfl, hi, .inl ⟨by simp [Region.wanted, hg], h⟩⟩
  · rename_i j b hg
    split at h <;> try exact h.elim
    rename_i i hat
    split at h <;> try exact h.elim
    rename_i hN
    have hsz : i < a.tmps.size := by rw [hi.sz]; exact hN
    have h1 : ((ops.toArray[j]?).bind (·.dst)) = some i := by simpa [guardAt] using hat
    split at h <;> try exact h.elim
    case h_2 hp =>
      have ht := hi.tmp i
      rw [hp, hi.vat_tmp hN] at ht
      obtain ⟨cs, hv, hcs⟩ := tup_inv ht
      have hcs0 : cs = #[] := Array.eq_empty_of_size_eq_zero (by simpa using hcs.length)
      subst hcs0
      have hy : yielded ops.toArray a.tmps j = none := by
        unfold yielded
        rw [h1]
        rw [Array.getD_eq_getD_getElem?, Array.getElem?_eq_getElem hsz] at hv
        simp only [Option.getD_some] at hv
        simp [Array.getElem?_eq_getElem hsz, hv]
      exact ⟨S, rfl, hi, .inr ⟨by simp [Region.wanted, hg, hy], h⟩⟩
    rename_i p hp
    have hy : ∀ q, p = q → yielded ops.toArray a.tmps j = some q ∧ Inv E G gs (S.put (some i) (.sc (.bool q))) a.tmps w := fun q hq => by
      subst hq
      have ht := hi.tmp i
      have ht' := ht
      rw [hp, hi.vat_tmp hN] at ht
      have hv := (sc_inv ht).1
      refine ⟨?_, hi.retell (by rw [hp] at ht'; exact ht') hN⟩
      unfold yielded
      rw [h1]
      rw [Array.getD_eq_getD_getElem?, Array.getElem?_eq_getElem hsz] at hv
      simp only [Option.getD_some] at hv
      simp [Array.getElem?_eq_getElem hsz, hv]
    obtain ⟨ht, hf⟩ := brB_ok h
    cases p with
    | true =>
      obtain ⟨hy1, hy2⟩ := hy true rfl
      have := ht rfl
      cases b with
      | true => exact ⟨_, put_rows _ _ _, hy2, .inl ⟨by simp [Region.wanted, hg, hy1], this⟩⟩
      | false => exact ⟨_, put_rows _ _ _, hy2, .inr ⟨by simp [Region.wanted, hg, hy1], this⟩⟩
    | false =>
      obtain ⟨hy1, hy2⟩ := hy false rfl
      have := hf rfl
      cases b with
      | true => exact ⟨_, put_rows _ _ _, hy2, .inr ⟨by simp [Region.wanted, hg, hy1], this⟩⟩
      | false => exact ⟨_, put_rows _ _ _, hy2, .inl ⟨by simp [Region.wanted, hg, hy1], this⟩⟩
theorem wpAnyH_mono {ops : Array Oper} {Q : Exit → Act → World → Prop} {Sc Sc' : World → Prop} (h : ∀ w, Sc w → Sc' w) : ∀ (n : Nat) (l : Array Bool) (a : Act) (w : World), wpAnyH P .any ops Q Sc n l a w → wpAnyH P .any ops Q Sc' n l a w
  | 0, _, _, _, hh => hh
  | n + 1, _, _, _, hh => ⟨hh.1, fun i hi => wpOp_mono (fun a' w' h' => ⟨h _ h'.1, wpAnyH_mono h n _ a' w' h'.2⟩) (hh.2 i hi)⟩
theorem envAt_put (E : Env P) (G : Nat → Prop) (gs : Gh) (S : State) (w : World) (d : Option Nat) (z : A) : envAt E G gs (S.put d z) w = envAt E G gs S w := by
  unfold envAt
  rw [put_rows]
theorem plan_step (hT : TabOK P T) {ops : List Oper} {Q : Exit → Act → World → Prop} {E : Env P} {n : Nat} {o : Oper} {mv : Option Nat} {X : Oper → State → Prop} {Y : State → Prop} (ho : ops[n]? = some o) {S : State} {a : Act} {w : World}
    (h : vGd ops o S (fun S => vOp std P T mv o S fun S' => X o S') Y) (hs : SInv E S a w) {K' : Act → World → Prop} (hX : ∀ S' a' w', X o S' → SInv E S' a' w' → K' a' w') (hY : ∀ S' , Y S' → SInv E S' a w → K' (a.put o.dst undef) w) : wpOp P ops.toArray Q n K' a w := by
  obtain ⟨hd, G, gs, hi⟩ := hs
  obtain ⟨S', hrows, hi', hV⟩ := vGd_ok h hi
  unfold wpOp
  rw [show ops.toArray[n]? = some o by simpa using ho]
  simp only
  rcases hV with ⟨hw, hv⟩ | ⟨hw, hv⟩
  · rw [if_pos hw]
    exact .inl (vOp_ok hT hv E a w _ _ ⟨hd, G, gs, hi'⟩ fun S' a' w' hK hs' => hX S' a' w' hK hs')
  · rw [if_neg (by simp [hw])]
    exact hY S' hv ⟨hd, G, gs, hi'⟩
theorem skip_put {E : Env P} {S : State} {a : Act} {w : World} (hs : SInv E S a w) (d : Option Nat) : SInv E (S.put d (.tup [])) (a.put d undef) w := by
  obtain ⟨hd, G, gs, hi⟩ := hs
  exact ⟨by rw [put_defers]; exact hd, G, gs, hi.put (tup_undef _ _ _) d⟩
theorem plan_ok (hT : TabOK P T) {ops : List Oper} {E0 : Env P} (hsel : Region.noSelect ops.toArray = true) {K : State → Prop} : ∀ (p : Pln) (l : Array Bool) (mv : Option Nat) (S : State) (a : Act) (w : World) (E : Env P) (Sc : World → Prop), planB ops.toArray p l = true →
    vPlan std P T ops p mv S K → SInv E S a w → (∀ S a w, SInv E S a w → SInv E0 S a w) → (∀ S a w, SInv E S a w → Sc w) →
    wpAnyH P .any ops.toArray (fun e a' w' => e = .normal ∧ ∃ S', SInv E0 S' a' w' ∧ K S') Sc p.depth l a w
  | .fin, l, mv, S, a, w, E, Sc, hB, h, hs, hb, hSc => ⟨by simpa [planB] using hB, rfl, S, hb _ _ _ hs, h⟩
  | .q n p, l, mv, S, a, w, E, Sc, hB, h, hs, hb, hSc => by
    simp only [planB, Bool.and_eq_true] at hB
    unfold vPlan at h
    split at h <;> try exact h.elim
    rename_i o ho
    obtain ⟨hd, G, gs, hi⟩ := hs
    obtain ⟨S', hrows, hi', hX⟩ := vGd_ok h hi
    have hno : noRowsB S'.rows = true := by rcases hX with ⟨_, h, _⟩ | ⟨_, h, _⟩ <;> exact h
    have hbel : ∀ S2 a2 w2, SInv (envAt E G gs S' w) S2 a2 w2 → Go.RowKit.Below w.heap.size w w2 := fun S2 a2 w2 ⟨_, G2, gs2, hi2⟩ =>
      ⟨hi2.os, hi2.tape, hi2.output, hi2.size, fun b hb => hi2.keep b hb fun ⟨r, row, hr, _⟩ => by rw [noRows_at hno] at hr; cases hr⟩
    have hback : ∀ S2 a2 w2, SInv (envAt E G gs S' w) S2 a2 w2 → SInv E S2 a2 w2 := fun S2 a2 w2 ⟨h1, G2, gs2, hi2⟩ => ⟨h1, G2, gs2, hi'.back hi2⟩
    have hat : SInv (envAt E G gs S' w) S' a w := ⟨hd, G, gs, hi'.at⟩
    refine wpAnyH_mono (Sc := fun w' => Sc w' ∧ Go.RowKit.Below w.heap.size w w') (fun _ h => h.1) _ _ _ _ ?_
    have hself : Sc w ∧ Go.RowKit.Below w.heap.size w w := ⟨hSc _ _ _ ⟨hd, G, gs, hi⟩, ⟨rfl, rfl, rfl, Nat.le_refl _, fun _ _ => rfl⟩⟩
    have ho' : ops.toArray[n]? = some o := by simpa using ho
    rcases hX with ⟨hw, _, hv⟩ | ⟨hw, _, hv⟩
    · obtain ⟨z, h1, h2⟩ := vPOp_ok hT hv
      obtain ⟨v, h3, h4⟩ := h1 E G gs a w hi'
      refine wpAnyH_take (oi := o) (v := v) ho' hsel hB.1.2 hB.1.1 (fun c a w h => absurd h.1 (by simp)) (.inl ⟨hw, fun w' hw' => h3 w' hw'.2⟩) hself ?_
      exact plan_ok hT hsel p _ mv _ _ w (envAt E G gs S' w) _ hB.2 h2 ⟨by rw [put_defers]; exact hd, G, gs, envAt_put E G gs S' w o.dst z ▸ (hi'.put h4 o.dst).at⟩ (fun S a w h => hb _ _ _ (hback _ _ _ h)) (fun S a w h => ⟨hSc _ _ _ (hback _ _ _ h), hbel _ _ _ h⟩)
    · refine wpAnyH_take (oi := o) (v := undef) ho' hsel hB.1.2 hB.1.1 (fun c a w h => absurd h.1 (by simp)) (.inr ⟨hw, rfl⟩) hself ?_
      exact plan_ok hT hsel p _ mv _ _ w (envAt E G gs S' w) _ hB.2 hv ⟨by rw [put_defers]; exact hd, G, gs, envAt_put E G gs S' w o.dst (.tup []) ▸ (hi'.put (tup_undef _ _ _) o.dst).at⟩ (fun S a w h => hb _ _ _ (hback _ _ _ h)) (fun S a w h => ⟨hSc _ _ _ (hback _ _ _ h), hbel _ _ _ h⟩)
  | .s n p, l, mv, S, a, w, E, Sc, hB, h, hs, hb, hSc => by
    simp only [planB, Bool.and_eq_true, decide_eq_true_eq] at hB
    unfold vPlan at h
    split at h <;> try exact h.elim
    rename_i o ho
    refine wpAnyH_all hB.1 (by simp) fun i hi => ?_
    obtain rfl : i = n := by simpa using hi
    exact plan_step hT (X := fun o S' => vPlan std P T ops p (madeBy o) S' K) ho h hs (fun S' a' w' hK hs' => ⟨hSc _ _ _ hs', plan_ok hT hsel p _ _ S' a' w' E Sc hB.2 hK hs' hb hSc⟩)
      fun S' hK hs' => ⟨hSc _ _ _ hs', plan_ok hT hsel p _ _ _ _ w E Sc hB.2 hK (skip_put hs' o.dst) hb hSc⟩
  | .two n p m r, l, mv, S, a, w, E, Sc, hB, h, hs, hb, hSc => by
    simp only [planB, Bool.and_eq_true, decide_eq_true_eq] at hB
    unfold vPlan at h
    split at h <;> try exact h.elim
    rename_i o o' ho ho'
    refine wpAnyH_all hB.1.1.1 (by simp) fun i hi => ?_
    have hin : i = n ∨ i = m := by simpa using hi
    rcases hin with rfl | rfl
    · exact plan_step hT (X := fun o S' => vPlan std P T ops p (madeBy o) S' K) ho h.1 hs (fun S' a' w' hK hs' => ⟨hSc _ _ _ hs', plan_ok hT hsel p _ _ S' a' w' E Sc hB.1.2 hK hs' hb hSc⟩)
        fun S' hK hs' => ⟨hSc _ _ _ hs', plan_ok hT hsel p _ _ _ _ w E Sc hB.1.2 hK (skip_put hs' o.dst) hb hSc⟩
    · have := plan_step (Q := fun e a' w' => e = .normal ∧ ∃ S', SInv E0 S' a' w' ∧ K S') (K' := fun a' w' => Sc w' ∧ wpAnyH P .any ops.toArray (fun e a' w' => e = .normal ∧ ∃ S', SInv E0 S' a' w' ∧ K S') Sc r.depth (l.setIfInBounds i true) a' w') hT (X := fun o S' => vPlan std P T ops r (madeBy o) S' K) ho' h.2 hs (fun S' a' w' hK hs' => ⟨hSc _ _ _ hs', plan_ok hT hsel r _ _ S' a' w' E Sc hB.2 hK hs' hb hSc⟩)
        fun S' hK hs' => ⟨hSc _ _ _ hs', plan_ok hT hsel r _ _ _ _ w E Sc hB.2 hK (skip_put hs' o'.dst) hb hSc⟩
      rw [← hB.1.1.2] at this
      exact this
/-- A region that draws its order, by a plan. -/
theorem VC_plan (hT : TabOK P T) (hΩ : Ω = std) (hm : P.follows .mixedOrders = true) (p : Pln) {id : Nat} {ops : Array Oper} {K : Exit → State → Prop} (hB : planOK ops p = true)
    (h : vPlan Ω P T ops.toList p none S (K .normal)) : VC P (.region id ops true) S K := by
  subst hΩ
  intro E a w hs
  have hops : ops = ops.toList.toArray := by simp
  rw [hops] at hB ⊢
  obtain ⟨hd, G, gs, hi⟩ := hs
  simp only [planOK, Bool.and_eq_true, decide_eq_true_eq] at hB
  obtain ⟨⟨hsel, hsz⟩, hB⟩ := hB
  have hw1 : Go.RowKit.Below w.heap.size w { w with drawn := w.drawn + 1 } := ⟨rfl, rfl, rfl, Nat.le_refl _, fun _ _ => rfl⟩
  have hi1 : Inv E G gs S a.tmps { w with drawn := w.drawn + 1 } := hi.below hw1 (fun _ h => h) (fun _ h => .inl h) (fun b h => Nat.lt_of_lt_of_le (hi.glt b h) hw1.size)
  have hwp : (Code.region id ops.toList.toArray true).wp P (fun e a' w' => e = .normal ∧ ∃ S', SInv E S' a' w' ∧ K .normal S') a w := by
    refine wp_region_held (S := fun _ => True) hm ?_
    have := plan_ok (E0 := E) hT hsel p _ none S a _ E (fun _ => True) hB h ⟨hd, G, gs, hi1⟩ (fun _ _ _ h => h) (fun _ _ _ _ => trivial)
    rw [hsz] at this
    exact this
  refine wp_mono hwp ?_
  rintro e a' w' ⟨rfl, S', hs', hK'⟩
  exact ⟨S', hs', hK'⟩
end
end Go.Fw

/- The library's numerals and joins, as contracts. Plain theorems. -/
set_option linter.unusedVariables false
set_option linter.unusedSimpArgs false
namespace Go.Proofs
open Go.Shelf
def Tryz.fmtI_ren : Go.Shelf.Ren := ⟨fun | 173 => 62 | 246 => 86 | 283 => 97 | 284 => 98 | 285 => 99 | 286 => 100 | 129 => 108 | 317 => 107 | 318 => 109 | 319 => 110 | 320 => 111 | 337 => 117 | 338 => 118 | n => n, fun | 2 => 2 | 3 => 3 | 9 => 9 | 4 => 4 | 171 => 137 | 0 => 0 | 53 => 138 | 37 => 22 | 5 => 5 | 173 => 141 | 212 => 152 | 51 => 153 | 20 => 20 | 213 => 154 | 46 => 156 | 232 => 165 | 233 => 166 | n => n, fun | 17 => 0 | 18 => 4 | 19 => 5 | n => n⟩
theorem Tryz.fmtI : Go.Proofs.LaysM.n173 Tryz.prog Tryz.fmtI_ren where
  mixed := by kernel_rfl
  f129 := Tryz.func108.trans (congrArg some (by kernel_rfl))
  f173 := Tryz.func62.trans (congrArg some (by kernel_rfl))
  f246 := Tryz.func86.trans (congrArg some (by kernel_rfl))
  f283 := Tryz.func97.trans (congrArg some (by kernel_rfl))
  f284 := Tryz.func98.trans (congrArg some (by kernel_rfl))
  f285 := Tryz.func99.trans (congrArg some (by kernel_rfl))
  f286 := Tryz.func100.trans (congrArg some (by kernel_rfl))
  f317 := Tryz.func107.trans (congrArg some (by kernel_rfl))
  f318 := Tryz.func109.trans (congrArg some (by kernel_rfl))
  f319 := Tryz.func110.trans (congrArg some (by kernel_rfl))
  f320 := Tryz.func111.trans (congrArg some (by kernel_rfl))
  f337 := Tryz.func117.trans (congrArg some (by kernel_rfl))
  f338 := Tryz.func118.trans (congrArg some (by kernel_rfl))
  t0 := Tryz.underlying0
  a0 := Tryz.isAgg0
  z0 := Tryz.sizeOf0
  v0 := Tryz.zeroValue0
  t2 := Tryz.underlying2
  a2 := Tryz.isAgg2
  z2 := Tryz.sizeOf2
  v2 := Tryz.zeroValue2
  t3 := Tryz.underlying3
  a3 := Tryz.isAgg3
  z3 := Tryz.sizeOf3
  v3 := Tryz.zeroValue3
  t4 := Tryz.underlying4
  a4 := Tryz.isAgg4
  z4 := Tryz.sizeOf4
  v4 := Tryz.zeroValue4
  t5 := Tryz.underlying5
  a5 := Tryz.isAgg5
  z5 := Tryz.sizeOf5
  v5 := Tryz.zeroValue5
  t9 := Tryz.underlying9
  a9 := Tryz.isAgg9
  z9 := Tryz.sizeOf9
  v9 := Tryz.zeroValue9
  t20 := Tryz.underlying20
  a20 := Tryz.isAgg20
  z20 := Tryz.sizeOf20
  v20 := Tryz.zeroValue20
  t37 := Tryz.underlying22
  a37 := Tryz.isAgg22
  z37 := Tryz.sizeOf22
  v37 := Tryz.zeroValue22
  t46 := Tryz.underlying156
  a46 := Tryz.isAgg156
  z46 := Tryz.sizeOf156
  v46 := Tryz.zeroValue156
  t51 := Tryz.underlying153
  a51 := Tryz.isAgg153
  z51 := Tryz.sizeOf153
  v51 := Tryz.zeroValue153
  t53 := Tryz.underlying138
  a53 := Tryz.isAgg138
  z53 := Tryz.sizeOf138
  v53 := Tryz.zeroValue138
  t171 := Tryz.underlying137
  a171 := Tryz.isAgg137
  z171 := Tryz.sizeOf137
  v171 := Tryz.zeroValue137
  t173 := Tryz.underlying141
  a173 := Tryz.isAgg141
  z173 := Tryz.sizeOf141
  v173 := Tryz.zeroValue141
  t212 := Tryz.underlying152
  a212 := Tryz.isAgg152
  z212 := Tryz.sizeOf152
  v212 := Tryz.zeroValue152
  t213 := Tryz.underlying154
  a213 := Tryz.isAgg154
  z213 := Tryz.sizeOf154
  t232 := Tryz.underlying165
  a232 := Tryz.isAgg165
  z232 := Tryz.sizeOf165
  v232 := Tryz.zeroValue165
  t233 := Tryz.underlying166
  a233 := Tryz.isAgg166
  z233 := Tryz.sizeOf166
  v233 := Tryz.zeroValue166
  g17 := by kernel_rfl
  g18 := by kernel_rfl
  g19 := by kernel_rfl
  i0 := by kernel_rfl
  i2 := by kernel_rfl
  i3 := by kernel_rfl
  i4 := by kernel_rfl
  i5 := by kernel_rfl
  i9 := by kernel_rfl
  i20 := by kernel_rfl
  i37 := by kernel_rfl
  i46 := by kernel_rfl
  i51 := by kernel_rfl
  i53 := by kernel_rfl
  i171 := by kernel_rfl
  i173 := by kernel_rfl
  i212 := by kernel_rfl
  i232 := by kernel_rfl
  i233 := by kernel_rfl
  m17 := by kernel_rfl
  m18 := by kernel_rfl
  m19 := by kernel_rfl

def Tryz.joinS_ren : Go.Shelf.Ren := ⟨fun | 156 => 35 | 165 => 63 | 166 => 64 | 169 => 65 | 240 => 87 | 241 => 88 | 276 => 101 | 277 => 102 | n => n, fun | 31 => 43 | 9 => 9 | 3 => 3 | 4 => 4 | 0 => 0 | 20 => 20 | 72 => 106 | 76 => 110 | 70 => 104 | 37 => 22 | 75 => 109 | 127 => 129 | 164 => 143 | 5 => 5 | 80 => 42 | n => n, fun | n => n⟩
theorem Tryz.joinS : Go.Proofs.Lays.n156 Tryz.prog Tryz.joinS_ren where
  mixed := by kernel_rfl
  f156 := Tryz.func35.trans (congrArg some (by kernel_rfl))
  f165 := Tryz.func63.trans (congrArg some (by kernel_rfl))
  f166 := Tryz.func64.trans (congrArg some (by kernel_rfl))
  f169 := Tryz.func65.trans (congrArg some (by kernel_rfl))
  f240 := Tryz.func87.trans (congrArg some (by kernel_rfl))
  f241 := Tryz.func88.trans (congrArg some (by kernel_rfl))
  f276 := Tryz.func101.trans (congrArg some (by kernel_rfl))
  f277 := Tryz.func102.trans (congrArg some (by kernel_rfl))
  t0 := Tryz.underlying0
  a0 := Tryz.isAgg0
  z0 := Tryz.sizeOf0
  v0 := Tryz.zeroValue0
  t3 := Tryz.underlying3
  a3 := Tryz.isAgg3
  z3 := Tryz.sizeOf3
  v3 := Tryz.zeroValue3
  t4 := Tryz.underlying4
  a4 := Tryz.isAgg4
  z4 := Tryz.sizeOf4
  v4 := Tryz.zeroValue4
  t9 := Tryz.underlying9
  a9 := Tryz.isAgg9
  z9 := Tryz.sizeOf9
  v9 := Tryz.zeroValue9
  t20 := Tryz.underlying20
  a20 := Tryz.isAgg20
  z20 := Tryz.sizeOf20
  v20 := Tryz.zeroValue20
  t31 := Tryz.underlying43
  a31 := Tryz.isAgg43
  z31 := Tryz.sizeOf43
  v31 := Tryz.zeroValue43
  t37 := Tryz.underlying22
  a37 := Tryz.isAgg22
  z37 := Tryz.sizeOf22
  v37 := Tryz.zeroValue22
  t70 := Tryz.underlying104
  a70 := Tryz.isAgg104
  z70 := Tryz.sizeOf104
  v70 := Tryz.zeroValue104
  t72 := Tryz.underlying106
  a72 := Tryz.isAgg106
  z72 := Tryz.sizeOf106
  v72 := Tryz.zeroValue106
  t75 := Tryz.underlying109
  a75 := Tryz.isAgg109
  z75 := Tryz.sizeOf109
  v75 := Tryz.zeroValue109
  t76 := Tryz.underlying110
  a76 := Tryz.isAgg110
  z76 := Tryz.sizeOf110
  v76 := Tryz.zeroValue110
  t127 := Tryz.underlying129
  a127 := Tryz.isAgg129
  z127 := Tryz.sizeOf129
  v127 := Tryz.zeroValue129
  t164 := Tryz.underlying143
  a164 := Tryz.isAgg143
  z164 := Tryz.sizeOf143
  v164 := Tryz.zeroValue143

end Go.Proofs
namespace Go.Proofs.YtfmcncflooechaaGreatDoor
open Go Go.Fw Go.Proofs Go.Lib
set_option maxRecDepth 100000
theorem relC' {w : World} {G : Nat → Prop} {x : A} {xs : List A} {vs : List Value} (h : RelL w G (x :: xs) vs []) : ∃ v us, vs = v :: us ∧ Rel w G x v [] ∧ RelL w G xs us [] := by
  generalize hF : ([] : List Nat) = F at h
  generalize hx : x :: xs = ys at h
  cases h with
  | nil => cases hx
  | cons h hl =>
    cases hx
    obtain ⟨rfl, rfl⟩ := List.append_eq_nil_iff.1 hF.symm
    exact ⟨_, _, rfl, h, hl⟩
def encS (c : List UInt8) : Value := .string (mkS c)
theorem relS' : ∀ {xs : List (List UInt8)} {w : World} {G : Nat → Prop} {vs : List Value} {F : List Nat}, RelL w G (xs.map str) vs F → vs = xs.map encS ∧ F = []
  | [], _, _, _, _, h => by cases h; exact ⟨rfl, rfl⟩
  | x :: xs, _, _, _, _, h => by
    cases h with
    | cons h hl =>
      obtain ⟨rfl, rfl⟩ := relS' hl
      cases h
      exact ⟨rfl, rfl⟩
theorem flatS' (xs : List (List UInt8)) : flat (xs.map str) = xs.map str := by
  induction xs with
  | nil => rfl
  | cons x xs ih => simp only [flat, List.map_cons, List.flatMap_cons] at *; rw [ih]; rfl
theorem c_FormatInt (n : Int) (h0 : -9223372036854775808 ≤ n) (h1 : n ≤ 9223372036854775807) : PCtr PP n_strconv_FormatInt [i64 n, i64 10] (str (Lib.itoa n)) := by
  refine ⟨fn_strconv_FormatInt.1, fun w G vs hG hl => ?_⟩
  obtain ⟨v1, us, rfl, h, hl⟩ := relC' hl
  obtain ⟨v2, us, rfl, h2, hl⟩ := relC' hl
  cases hl
  cases h
  cases h2
  have hg : ∃ g, PP.globalNamed tabName = some g := Option.isSome_iff_exists.1 (by kernel_rfl)
  obtain ⟨g, hg⟩ := hg
  refine Calls.mono (Any.strconv_FormatInt_10 Tryz.fmtI n h0 h1 w (hG.laid g hg).2) ?_
  rintro e w' ⟨rfl, k, os, rfl⟩
  exact ⟨_, [], rfl, ⟨rfl, rfl, rfl, by simp [Go.Sort.grow], fun b hb => Go.Sort.heap_grow_old (w.drewN k) os hb⟩, List.nodup_nil, by simp, .sc rfl⟩
theorem cells_at {w : World} {b o : Nat} {cur : Array Value} {e : TypeId} {fr : Nat × Nat} {j : Nat} {v : Value} (hh : w.heap[b]? = some (.cells cur e fr)) (hv : cur[o + j]? = some v) : w.cell? ⟨b, o + j, none⟩ = some v := by
  simp [World.cell?, hh, hv]
theorem c_Join (xs : List (List UInt8)) (sep : List UInt8) (hN : xs.length ≤ 140737488355328) (hlen : (Lib.join xs sep).length ≤ 140737488355328) :
    PCtr PP n_strings_Join [.sl false 1 (xs.map str), str sep] (str (Lib.join xs sep)) := by
  have X : Builder.Extra PP Tryz.joinS_ren := ⟨⟨by kernel_rfl, by kernel_rfl⟩, Tryz.underlying5, Tryz.isAgg5, Tryz.sizeOf5, Tryz.zeroValue5, by kernel_rfl, by kernel_rfl, by kernel_rfl, by decide⟩
  refine ⟨fn_strings_Join.1, fun w G vs hG hl => ?_⟩
  obtain ⟨v1, us, rfl, h, hl⟩ := relC' hl
  obtain ⟨v2, us, rfl, h2, hl⟩ := relC' hl
  cases hl
  cases h2
  have done : ∀ {v : Value}, Calls PP n_strings_Join #[v, .string (mkS sep)] w (fun e w' => e = .returned (.string (mkS (Lib.join xs sep))) ∧ Go.RowKit.Below w.heap.size w w') →
      Calls PP n_strings_Join [v, .string (mkS sep)].toArray w (fun e w' => ∃ v F, e = .returned v ∧ Go.RowKit.Below w.heap.size w w' ∧
        F.Nodup ∧ (∀ b ∈ F, w.heap.size ≤ b) ∧ Rel w' (fun b => (G b ∨ (w.heap.size ≤ b ∧ b < w'.heap.size)) ∧ b ∉ F) (str (Lib.join xs sep)) v F) := fun h => by
    refine Calls.mono h ?_
    rintro e w' ⟨rfl, hb⟩
    exact ⟨_, [], rfl, hb, List.nodup_nil, by simp, .sc rfl⟩
  generalize hys : xs.map str = ys at h
  have hnil : ∀ {a : Option Addr} {c : Nat}, ys = [] → Calls PP n_strings_Join #[.slice a 0 c, .string (mkS sep)] w (fun e w' => e = .returned (.string (mkS (Lib.join xs sep))) ∧ Go.RowKit.Below w.heap.size w w') := fun {a c} h0 => by
    have hx : xs = [] := by subst h0; cases xs with
      | nil => rfl
      | cons a b => cases hys
    subst hx
    exact (Any.strings_Join_none Tryz.joinS X a c (mkS sep) w).mono fun e w' ⟨he, hw⟩ => ⟨he, hw ▸ Go.RowKit.Below.refl _ _⟩
  cases h with
  | nils => exact done (hnil rfl)
  | roz => exact done (hnil rfl)
  | ro hh hg hw hlen1 hc hlr hcap hm =>
    rename_i b k len cap cur e fr cs
    subst hys
    rw [flatS'] at hlr
    obtain ⟨rfl, -⟩ := relS' hlr
    have hl2 : len = xs.length := by rw [hlen1, List.length_map]
    subst hl2
    have hd : ∀ l : List (List UInt8), (l.map mkS).map (·.data.toList) = l := fun l => by rw [List.map_map]; exact List.map_id' _
    have := Any.strings_Join Tryz.joinS X b k cap (xs.map mkS) (mkS sep) w (fun j x hj => ?_) (Array.getElem?_eq_some_iff.1 hh).1 (by rw [List.length_map]; exact hN) (by rw [List.length_map]; exact hcap) (by rw [hd]; exact hlen)
    · rw [hd, List.length_map] at this
      exact done this
    · obtain ⟨c, hc1, rfl⟩ : ∃ c, xs[j]? = some c ∧ mkS c = x := by simpa using hj
      refine cells_at hh ?_
      have h3 : (xs.map encS)[j]? = some (.string (mkS c)) := by rw [List.getElem?_map, hc1]; rfl
      rw [hc, Nat.mul_one, List.getElem?_take] at h3
      split at h3
      · simpa using h3
      · cases h3
end Go.Proofs.YtfmcncflooechaaGreatDoor

/- Walks: numbers and versions as text. Plain theorems. -/
set_option linter.unusedVariables false
set_option linter.unusedSimpArgs false
namespace Go.Proofs.YtfmcncflooechaaGreatDoor
open Go Go.Fw
set_option maxRecDepth 100000
theorem c_dec (n : Int) (h0 : -9223372036854775808 ≤ n) (h1 : n ≤ 9223372036854775807) : PCtr PP n_impl_dec [i64 n] (str (Lib.itoa n)) := by
  obtain ⟨Ω, hΩ⟩ : ∃ Ω, Ω = std := ⟨_, rfl⟩
  have hc := c_FormatInt n h0 h1
  have htab := tab
  generalize Lib.itoa n = r at *
  refine PCtr.walk tab hΩ fn_impl_dec rfl ?_
  generalize PP = P at *
  cbv
  refine call_pure hΩ 3 hc rfl (fits _) rfl rfl ?_
  cbv
  exact .of rfl
theorem decD_small {n : Nat} (h : n < 10) : Lib.decDigits n = [UInt8.ofNat (48 + n)] := by rw [Lib.decDigits, dif_pos h]
theorem decD_big {n : Nat} (h : 10 ≤ n) : Lib.decDigits n = Lib.decDigits (n / 10) ++ [UInt8.ofNat (48 + n % 10)] := by rw [Lib.decDigits, dif_neg (by omega)]
theorem decD_len : ∀ (k n : Nat), n < 10 ^ (k + 1) → (Lib.decDigits n).length ≤ k + 1
  | 0, n, h => by rw [decD_small (by simpa using h)]; simp
  | k + 1, n, h => by
    rcases Nat.lt_or_ge n 10 with h1 | h1
    · rw [decD_small h1]; simp
    · have := decD_len k (n / 10) (by rw [Nat.div_lt_iff_lt_mul (by decide)]; rw [Nat.pow_succ] at h; exact h)
      rw [decD_big h1, List.length_append, List.length_singleton]; omega
theorem byteOf {Ω : Opq} (hΩ : Ω = std) {n : Nat} (h : n < 10) : Ω.wrap .u8 (Ω.ar .add .i64 48 (n : Int)) = ((UInt8.ofNat (48 + n)).toNat : Int) := by
  subst hΩ
  show IntKind.u8.wrap (IntKind.i64.wrap (48 + n)) = _
  rw [wrap64 (by omega) (by omega), UInt8.toNat_ofNat']
  have e : (48 + n) % 2 ^ 8 = 48 + n := Nat.mod_eq_of_lt (by omega)
  rw [e]
  show ((48 + (n : Int)) % 256 : Int) = _
  omega
theorem c_l1Decimal (n : Nat) (hn : n < 1000000000000000000) : PCtr PP n_spec_l1Decimal [i64 (n : Int)] (str (Lib.decDigits n)) := by
  induction n using Nat.strongRecOn with
  | _ n ih =>
  obtain ⟨Ω, hΩ⟩ : ∃ Ω, Ω = std := ⟨_, rfl⟩
  have htab := tab
  have hmo : PP.follows .mixedOrders = true := by kernel_rfl
  obtain ⟨r, hr⟩ : ∃ r, r = Lib.decDigits n := ⟨_, rfl⟩
  rw [← hr]
  refine PCtr.walk tab hΩ fn_spec_l1Decimal rfl ?_
  generalize PP = P at *
  cbv
  refine br (fun h => ?_) (fun h => ?_)
  · replace h : n < 10 := by have h : (n : Int) < 10 := ltZt hΩ h; omega
    obtain ⟨c, hc⟩ : ∃ c, c = UInt8.ofNat (48 + n) := ⟨_, rfl⟩
    have hb := byteOf hΩ h
    have hr2 := (hr.trans (decD_small h)).symm
    rw [← hc] at hb hr2
    cbv
    refine ⟨[c], ⟨Nat.le_refl _, congrArg (fun z => [A.sc (.int .u8 z)]) hb⟩, ?_⟩
    cbv
    exact .of (congrArg str hr2)
  · replace h : 10 ≤ n := by have h : (10 : Int) ≤ n := ltZf hΩ h; omega
    have hcm := ih (n / 10) (by omega) (by omega)
    have hr2 := (hr.trans (decD_big h)).symm
    have hlen := decD_len 17 (n / 10) (by omega)
    have hq : Ω.ar .quo .i64 (n : Int) 10 = ((n / 10 : Nat) : Int) := by
      subst hΩ
      show IntKind.i64.wrap ((n : Int).tdiv 10) = _
      rw [Int.tdiv_eq_ediv_of_nonneg (by omega), wrap64 (by omega) (by omega)]; rfl
    have hm : Ω.ar .rem .i64 (n : Int) 10 = ((n % 10 : Nat) : Int) := by
      subst hΩ
      show (n : Int).tmod 10 = _
      rw [Int.tmod_eq_emod_of_nonneg (by omega)]; rfl
    obtain ⟨c, hc⟩ : ∃ c, c = UInt8.ofNat (48 + n % 10) := ⟨_, rfl⟩
    have hb := byteOf hΩ (show n % 10 < 10 by omega)
    rw [← hc] at hb hr2
    rw [← hm] at hb
    generalize Lib.decDigits (n / 10) = q at *
    generalize n / 10 = m at *
    have hcat : Ω.cat q [c] = r := by subst hΩ; exact hr2
    have hll : ((q.length + [c].length : Nat) : Int) ≤ 9223372036854775807 := by rw [List.length_singleton]; omega
    cbv
    refine ⟨VC_order htab hΩ hmo [0, 1, 3, 4, 5] (.two 2 (.step 6 (.step 7 (.step 8 (.step 9 (.step 10 .fin))))) 6 (.two 2 (.step 7 (.step 8 (.step 9 (.step 10 .fin)))) 7 (.two 2 (.step 8 (.step 9 (.step 10 .fin))) 8 (.step 2 (.step 9 (.step 10 .fin)))))) (by kernel_rfl) ?_⟩
    cbv
    refine ⟨⟨by decide⟩, ⟨by decide⟩, ?_⟩
    repeat' (first
      | (refine call_pure hΩ 3 hcm rfl (fitsE (congrArg (fun z => [i64 z]) hq)) rfl rfl ?_; cbv)
      | (refine ⟨[c], ⟨Nat.le_refl _, congrArg (fun z => [A.sc (.int .u8 z)]) hb⟩, ?_⟩; cbv)
      | (refine ⟨⟨hll⟩, ?_⟩; cbv)
      | exact .of (congrArg str hcat)
      | refine ⟨?_, ?_⟩)
theorem verF_in {v : Ver} (h : verF v = 0) : (0 ≤ v.a ∧ v.a ≤ 999) ∧ (0 ≤ v.b ∧ v.b ≤ 999) ∧ (0 ≤ v.c ∧ v.c ≤ 999) := by
  unfold verF at h
  split at h
  · rename_i h2
    simp only [Bool.and_eq_true, inB, decide_eq_true_eq] at h2
    omega
  · cases h
theorem itoa_dec {n : Int} (h : 0 ≤ n) : Lib.itoa n = Lib.decDigits n.toNat := by unfold Lib.itoa; exact if_neg (by omega)
theorem itoa_len {n : Int} (h0 : 0 ≤ n) (h1 : n ≤ 999) : (Lib.itoa n).length ≤ 3 := by rw [itoa_dec h0]; exact decD_len 2 _ (by omega)
theorem c_implText (v : Ver) (hv : verF v = 0) : PCtr PP n_impl_Version_text [v.enc] (str (Lib.itoa v.a ++ [46] ++ Lib.itoa v.b ++ [46] ++ Lib.itoa v.c)) := by
  obtain ⟨Ω, hΩ⟩ : ∃ Ω, Ω = std := ⟨_, rfl⟩
  have htab := tab
  have hmo : PP.follows .mixedOrders = true := by kernel_rfl
  have hv' := verF_in hv
  have ha := c_dec v.a (by omega) (by omega)
  have hb := c_dec v.b (by omega) (by omega)
  have hc := c_dec v.c (by omega) (by omega)
  have la := itoa_len (n := v.a) (by omega) (by omega)
  have lb := itoa_len (n := v.b) (by omega) (by omega)
  have lc := itoa_len (n := v.c) (by omega) (by omega)
  refine PCtr.walk tab hΩ fn_impl_Version_text rfl ?_
  obtain ⟨a, b, c⟩ := v
  dsimp only at *
  generalize Lib.itoa a = ra at *
  generalize Lib.itoa b = rb at *
  generalize Lib.itoa c = rc at *
  obtain ⟨r, hr⟩ : ∃ r, r = ra ++ [46] ++ rb ++ [46] ++ rc := ⟨_, rfl⟩
  have hcat : Ω.cat (Ω.cat (Ω.cat (Ω.cat ra [46]) rb) [46]) rc = r := by subst hΩ; exact hr.symm
  have l1 : (Ω.cat ra [46]).length ≤ 4 := by subst hΩ; show (ra ++ [46]).length ≤ 4; simp; omega
  have l2 : (Ω.cat (Ω.cat ra [46]) rb).length ≤ 7 := by subst hΩ; show (ra ++ [46] ++ rb).length ≤ 7; simp; omega
  have l3 : (Ω.cat (Ω.cat (Ω.cat ra [46]) rb) [46]).length ≤ 8 := by subst hΩ; show (ra ++ [46] ++ rb ++ [46]).length ≤ 8; simp; omega
  have o1 : ((ra.length + [(46 : UInt8)].length : Nat) : Int) ≤ 9223372036854775807 := by rw [List.length_singleton]; omega
  have o2 : (((Ω.cat ra [46]).length + rb.length : Nat) : Int) ≤ 9223372036854775807 := by omega
  have o3 : (((Ω.cat (Ω.cat ra [46]) rb).length + [(46 : UInt8)].length : Nat) : Int) ≤ 9223372036854775807 := by rw [List.length_singleton]; omega
  have o4 : (((Ω.cat (Ω.cat (Ω.cat ra [46]) rb) [46]).length + rc.length : Nat) : Int) ≤ 9223372036854775807 := by omega
  rw [← hr]
  generalize PP = P at *
  cbv
  refine ⟨VC_drawn htab hΩ hmo (by kernel_rfl) ?_⟩
  cbv
  refine QCall_pure (k := 3) ha rfl (fits _) rfl ?_
  cbv
  refine ⟨⟨o1⟩, ?_⟩
  refine QCall_pure (k := 3) hb rfl (fits _) rfl ?_
  cbv
  refine ⟨⟨o2⟩, ⟨o3⟩, ?_⟩
  refine QCall_pure (k := 3) hc rfl (fits _) rfl ?_
  cbv
  refine ⟨⟨o4⟩, ?_⟩
  cbv
  exact .of (congrArg str hcat)
end Go.Proofs.YtfmcncflooechaaGreatDoor

/- Walks: sizes of packages. Plain theorems. -/
set_option linter.unusedVariables false
set_option linter.unusedSimpArgs false
namespace Go.Proofs.YtfmcncflooechaaGreatDoor
open Go Go.Fw
set_option maxRecDepth 100000
def szN (n : Nat) (l : Int) : Int := if l - n < 0 then -1 else l - n
def szT (t : Trm) (l : Int) : Int := szN t.n.length l
def costS {α : Type} (g : α → Nat) (cs : List α) : Nat := cs.length + (cs.map g).sum
def cT (t : Trm) : Nat := t.n.length
def cB (s : List UInt8) : Nat := s.length
def cP (o : Pck) : Nat := o.n.length + (costS cB o.p + (costS (costS cT) o.d + costS cT o.b))
end Go.Proofs.YtfmcncflooechaaGreatDoor

/- Walks: the marks' text. Plain theorems. -/
set_option linter.unusedVariables false
set_option linter.unusedSimpArgs false
namespace Go.Proofs.YtfmcncflooechaaGreatDoor
open Go Go.Fw
set_option maxRecDepth 100000
def mkL (k : Nat) (out : List UInt8) : List UInt8 := if k = 0 then out else mkL (k / 10) (UInt8.ofNat (48 + k % 10) :: out)
termination_by k
decreasing_by omega
end Go.Proofs.YtfmcncflooechaaGreatDoor

/- Walks: changes as text. Plain theorems. -/
set_option linter.unusedVariables false
set_option linter.unusedSimpArgs false
namespace Go.Proofs.YtfmcncflooechaaGreatDoor
open Go Go.Fw
set_option maxRecDepth 100000
/-- A version's text. -/
def verT (v : Ver) : List UInt8 := Lib.itoa v.a ++ [46] ++ Lib.itoa v.b ++ [46] ++ Lib.itoa v.c
theorem verT_len {v : Ver} (h : verF v = 0) : (verT v).length ≤ 11 := by
  have h := verF_in h
  have la := itoa_len (n := v.a) (by omega) (by omega)
  have lb := itoa_len (n := v.b) (by omega) (by omega)
  have lc := itoa_len (n := v.c) (by omega) (by omega)
  simp [verT]; omega
theorem c_text (v : Ver) (hv : verF v = 0) : PCtr PP n_impl_Version_text [v.enc] (str (verT v)) := c_implText v hv
theorem c_specFormatVersion (v : Ver) (hv : verF v = 0) : PCtr PP n_spec_FormatVersion [v.enc] (str (verT v)) := by
  obtain ⟨Ω, hΩ⟩ : ∃ Ω, Ω = std := ⟨_, rfl⟩
  have htab := tab
  have hmo : PP.follows .mixedOrders = true := by kernel_rfl
  have hv' := verF_in hv
  have hD : ∀ n : Int, 0 ≤ n → n ≤ 999 → PCtr PP n_spec_l1Decimal [i64 n] (str (Lib.itoa n)) := fun n h0 h1 => by
    have := c_l1Decimal n.toNat (by omega)
    rw [Int.toNat_of_nonneg h0] at this
    rw [itoa_dec h0]; exact this
  have ha := hD v.a (by omega) (by omega)
  have hb := hD v.b (by omega) (by omega)
  have hc := hD v.c (by omega) (by omega)
  have la := itoa_len (n := v.a) (by omega) (by omega)
  have lb := itoa_len (n := v.b) (by omega) (by omega)
  have lc := itoa_len (n := v.c) (by omega) (by omega)
  have hf := c_specVersionFault v
  rw [hv] at hf
  clear hD
  unfold verT
  refine PCtr.walk tab hΩ fn_spec_FormatVersion rfl ?_
  obtain ⟨a, b, c⟩ := v
  dsimp only at *
  generalize Lib.itoa a = ra at *
  generalize Lib.itoa b = rb at *
  generalize Lib.itoa c = rc at *
  obtain ⟨r, hr⟩ : ∃ r, r = ra ++ [46] ++ rb ++ [46] ++ rc := ⟨_, rfl⟩
  have hcat : Ω.cat (Ω.cat (Ω.cat (Ω.cat ra [46]) rb) [46]) rc = r := by subst hΩ; exact hr.symm
  have l1 : (Ω.cat ra [46]).length ≤ 4 := by subst hΩ; show (ra ++ [46]).length ≤ 4; simp; omega
  have l2 : (Ω.cat (Ω.cat ra [46]) rb).length ≤ 7 := by subst hΩ; show (ra ++ [46] ++ rb).length ≤ 7; simp; omega
  have l3 : (Ω.cat (Ω.cat (Ω.cat ra [46]) rb) [46]).length ≤ 8 := by subst hΩ; show (ra ++ [46] ++ rb ++ [46]).length ≤ 8; simp; omega
  have o1 : ((ra.length + [(46 : UInt8)].length : Nat) : Int) ≤ 9223372036854775807 := by rw [List.length_singleton]; omega
  have o2 : (((Ω.cat ra [46]).length + rb.length : Nat) : Int) ≤ 9223372036854775807 := by omega
  have o3 : (((Ω.cat (Ω.cat ra [46]) rb).length + [(46 : UInt8)].length : Nat) : Int) ≤ 9223372036854775807 := by rw [List.length_singleton]; omega
  have o4 : (((Ω.cat (Ω.cat (Ω.cat ra [46]) rb) [46]).length + rc.length : Nat) : Int) ≤ 9223372036854775807 := by omega
  rw [← hr]
  generalize PP = P at *
  cbv
  refine call_pure hΩ 3 hf rfl (fits _) rfl rfl ?_
  cbv
  refine br (fun h => (ne_self hΩ h).elim) (fun h => ?_)
  cbv
  refine ⟨VC_drawn htab hΩ hmo (by kernel_rfl) ?_⟩
  cbv
  refine QCall_pure (k := 3) ha rfl (fits _) rfl ?_
  cbv
  refine ⟨⟨o1⟩, ?_⟩
  refine QCall_pure (k := 3) hb rfl (fits _) rfl ?_
  cbv
  refine ⟨⟨o2⟩, ⟨o3⟩, ?_⟩
  refine QCall_pure (k := 3) hc rfl (fits _) rfl ?_
  cbv
  refine ⟨⟨o4⟩, ?_⟩
  cbv
  exact .of (congrArg str hcat)
theorem c_joined (xs : List (List UInt8)) (hN : xs.length ≤ 140737488355328) (hlen : (Lib.join xs [32]).length ≤ 140737488355328) :
    PCtr PP n_impl_joined [.sl false 1 (xs.map str)] (str (Lib.join xs [32])) := by
  obtain ⟨Ω, hΩ⟩ : ∃ Ω, Ω = std := ⟨_, rfl⟩
  have hc := c_Join xs [32] hN hlen
  have htab := tab
  generalize Lib.join xs [32] = r at *
  generalize xs.map str = ys at *
  refine PCtr.walk tab hΩ fn_impl_joined rfl ?_
  generalize PP = P at *
  cbv
  refine call_pure hΩ 3 hc (mapO2 rfl rfl) (fits _) rfl rfl ?_
  cbv
  exact .of rfl
/-- A change that can be told. -/
def told (x : Chg) : Bool :=
  decide (nameF x.n = 0) && (decide (verF x.o = 0) && (decide (verF x.w = 0) && (if x.k = 1 then decide (x.o = Ver.zero) else if x.k = 2 then decide (x.w = Ver.zero) else decide (x.k = 3))))
theorem c_isTold (x : Chg) : PCtr PP n_impl_isTold [x.enc] (boo (told x)) := by
  obtain ⟨Ω, hΩ⟩ : ∃ Ω, Ω = std := ⟨_, rfl⟩
  have htab := tab
  have hve := verEq
  obtain ⟨T', hT⟩ : ∃ T', T' = told x := ⟨_, rfl⟩
  rw [← hT]
  unfold told at hT
  have h1 := c_implNameFault x.n
  have h2 := c_implVersionFault x.o
  have h3 := c_implVersionFault x.w
  generalize nameF x.n = N at *
  generalize verF x.o = O at *
  generalize verF x.w = W at *
  refine PCtr.walk tab hΩ fn_impl_isTold rfl ?_
  obtain ⟨k, n, o, w⟩ := x
  dsimp only at *
  generalize PP = P at *
  cbv
  repeat' (first
    | (refine br (fun hh => ?_) (fun hh => ?_) <;> (repeat' (first | replace hh := iteA hΩ hh | replace hh := iteB hΩ hh)) <;> (first | replace hh := neZt hΩ hh | replace hh := neZf hΩ hh | replace hh := eqZt hΩ hh | replace hh := eqZf hΩ hh | replace hh := ltZt hΩ hh | replace hh := ltZf hΩ hh | replace hh := geZt hΩ hh | replace hh := geZf hΩ hh | replace hh := gtZt hΩ hh | replace hh := gtZf hΩ hh | replace hh := leZt hΩ hh | replace hh := leZf hΩ hh | replace hh := notA hΩ hh | replace hh := notB hΩ hh | skip) <;> (first | (exfalso; (first | omega | (cases hh; done) | (simp_all; done))) | cbv))
    | (refine call_pure hΩ 3 h1 rfl (fits _) rfl rfl ?_; cbv)
    | (refine call_pure hΩ 3 h2 rfl (fits _) rfl rfl ?_; cbv)
    | (refine call_pure hΩ 3 h3 rfl (fits _) rfl rfl ?_; cbv)
    | (refine eqX_eql hve o Ver.zero ?_; cbv)
    | (refine eqX_eql hve w Ver.zero ?_; cbv))
  all_goals refine .of (congrArg boo ?_)
  all_goals clear htab hve h1 h2 h3
  all_goals rw [hT]
  all_goals first
    | (simp [*]; done)
    | (simp only [decide_eq_true ‹N = 0›, decide_eq_true ‹O = 0›, decide_eq_true ‹W = 0›, Bool.true_and, if_pos ‹k = 1›]; rfl)
    | (simp only [decide_eq_true ‹N = 0›, decide_eq_true ‹O = 0›, decide_eq_true ‹W = 0›, Bool.true_and, if_neg ‹¬ k = 1›, if_pos ‹k = 2›]; rfl)
    | (simp only [decide_eq_true ‹N = 0›, decide_eq_true ‹O = 0›, decide_eq_true ‹W = 0›, Bool.true_and, if_neg ‹¬ k = 1›, if_neg ‹¬ k = 2›]; subst hΩ; rfl)
/-- The words of its line. -/
def wordsT (x : Chg) : List (List UInt8) := if x.k = 2 then [[45], x.n, verT x.o] else if x.k = 3 then [[42], x.n, verT x.o, verT x.w] else [[43], x.n, verT x.w]
def lineT (x : Chg) : List UInt8 := Lib.join (wordsT x) [32] ++ [10]
def lineC (x : Chg) : List UInt8 := if told x then lineT x else []
theorem obC {a b : List UInt8} (h : a.length + b.length ≤ 1000000000) : ((a.length + b.length : Nat) : Int) ≤ 9223372036854775807 := by omega
theorem catL {Ω : Opq} (hΩ : Ω = std) {a b : List UInt8} : (Ω.cat a b).length = a.length + b.length := by subst hΩ; exact List.length_append
theorem nameF_len {n : List UInt8} (h : nameF n = 0) : n.length ≤ 12 := by
  unfold nameF at h
  split at h
  · cases h
  · split at h
    · cases h
    · omega
theorem join3 (a b c : List UInt8) : Lib.join [a, b, c] [32] = a ++ [32] ++ b ++ [32] ++ c := by simp [Lib.join]
theorem join4 (a b c d : List UInt8) : Lib.join [a, b, c, d] [32] = a ++ [32] ++ b ++ [32] ++ c ++ [32] ++ d := by simp [Lib.join]
theorem told_of {x : Chg} (h : told x = true) : nameF x.n = 0 ∧ verF x.o = 0 ∧ verF x.w = 0 := by
  unfold told at h
  simp only [Bool.and_eq_true, decide_eq_true_eq] at h
  exact ⟨h.1, h.2.1, h.2.2.1⟩
theorem lineT_len {x : Chg} (h : told x = true) : (lineT x).length ≤ 39 ∧ 0 < (lineT x).length := by
  obtain ⟨h1, h2, h3⟩ := told_of h
  have l1 := nameF_len h1
  have l2 := verT_len h2
  have l3 := verT_len h3
  unfold lineT wordsT
  split
  · rw [join3]; simp; omega
  · split
    · rw [join4]; simp; omega
    · rw [join3]; simp; omega
theorem lineT_eq (x : Chg) : lineT x = if x.k = 2 then [45, 32] ++ x.n ++ [32] ++ verT x.o ++ [10] else if x.k = 3 then [42, 32] ++ x.n ++ [32] ++ verT x.o ++ [32] ++ verT x.w ++ [10] else [43, 32] ++ x.n ++ [32] ++ verT x.w ++ [10] := by
  unfold lineT wordsT
  split
  · rw [join3]; simp
  · split
    · rw [join4]; simp
    · rw [join3]; simp
theorem c_l15Line (x : Chg) : PCtr PP n_spec_l15Line [x.enc] (str (lineC x)) := by
  obtain ⟨Ω, hΩ⟩ : ∃ Ω, Ω = std := ⟨_, rfl⟩
  have htab := tab
  have hve := verEq
  have hmo : PP.follows .mixedOrders = true := by kernel_rfl
  obtain ⟨r, hr⟩ : ∃ r, r = lineC x := ⟨_, rfl⟩
  rw [← hr]
  unfold lineC at hr
  rw [lineT_eq] at hr
  unfold told at hr
  have h1 := c_specNameFault x.n
  have h2 := c_specVersionFault x.o
  have h3 := c_specVersionFault x.w
  have g2 := c_specFormatVersion x.o
  have g3 := c_specFormatVersion x.w
  have l1 := nameF_len (n := x.n)
  have l2 := verT_len (v := x.o)
  have l3 := verT_len (v := x.w)
  generalize nameF x.n = N at *
  generalize verF x.o = O at *
  generalize verF x.w = W at *
  generalize verT x.o = A2 at *
  generalize verT x.w = A3 at *
  refine PCtr.walk tab hΩ fn_spec_l15Line rfl ?_
  obtain ⟨k, n, o, w⟩ := x
  dsimp only at *
  have f1 : N = 0 → O = 0 → W = 0 → k = 1 → decide (o = Ver.zero) = true → Ω.cat (Ω.cat (Ω.cat (Ω.cat [43, 32] n) [32]) A3) [10] = r := by
    intro a b c d e
    subst hΩ
    rw [hr]
    simp only [decide_eq_true a, decide_eq_true b, decide_eq_true c, Bool.true_and, if_pos d, e, if_true]
    rw [if_neg (by omega), if_neg (by omega)]; rfl
  have f2 : N = 0 → O = 0 → W = 0 → k = 2 → decide (w = Ver.zero) = true → Ω.cat (Ω.cat (Ω.cat (Ω.cat [45, 32] n) [32]) A2) [10] = r := by
    intro a b c d e
    subst hΩ
    rw [hr]
    simp only [decide_eq_true a, decide_eq_true b, decide_eq_true c, Bool.true_and, if_neg (show ¬ k = 1 by omega), if_pos d, e, if_true]; rfl
  have f3 : N = 0 → O = 0 → W = 0 → k = 3 → Ω.cat (Ω.cat (Ω.cat (Ω.cat (Ω.cat (Ω.cat [42, 32] n) [32]) A2) [32]) A3) [10] = r := by
    intro a b c d
    subst hΩ
    rw [hr]
    simp only [decide_eq_true a, decide_eq_true b, decide_eq_true c, Bool.true_and, if_neg (show ¬ k = 1 by omega), if_neg (show ¬ k = 2 by omega), decide_eq_true d, if_true]
    rw [if_pos d]; rfl
  have L : ∀ p : List UInt8, p.length = 2 → n.length ≤ 12 → ∀ V : List UInt8, V.length ≤ 11 → ((p.length + n.length : Nat) : Int) ≤ 9223372036854775807 ∧ (((Ω.cat p n).length + [(32 : UInt8)].length : Nat) : Int) ≤ 9223372036854775807 ∧
      (((Ω.cat (Ω.cat p n) [32]).length + V.length : Nat) : Int) ≤ 9223372036854775807 ∧ (((Ω.cat (Ω.cat (Ω.cat p n) [32]) V).length + [(10 : UInt8)].length : Nat) : Int) ≤ 9223372036854775807 ∧
      (((Ω.cat (Ω.cat (Ω.cat p n) [32]) V).length + [(32 : UInt8)].length : Nat) : Int) ≤ 9223372036854775807 ∧
      (∀ U : List UInt8, U.length ≤ 11 → (((Ω.cat (Ω.cat (Ω.cat (Ω.cat p n) [32]) V) [32]).length + U.length : Nat) : Int) ≤ 9223372036854775807 ∧ (((Ω.cat (Ω.cat (Ω.cat (Ω.cat (Ω.cat p n) [32]) V) [32]) U).length + [(10 : UInt8)].length : Nat) : Int) ≤ 9223372036854775807) := by
    intro p hp hn V hV
    refine ⟨obC ?_, obC ?_, obC ?_, obC ?_, obC ?_, fun U hU => ⟨obC ?_, obC ?_⟩⟩ <;> simp only [catL hΩ, List.length_singleton, hp] <;> omega
  generalize PP = P at *
  cbv
  repeat' (first
    | (refine br (fun hh => ?_) (fun hh => ?_) <;> (repeat' (first | replace hh := iteA hΩ hh | replace hh := iteB hΩ hh)) <;> (first | replace hh := neZt hΩ hh | replace hh := neZf hΩ hh | replace hh := eqZt hΩ hh | replace hh := eqZf hΩ hh | replace hh := ltZt hΩ hh | replace hh := ltZf hΩ hh | replace hh := geZt hΩ hh | replace hh := geZf hΩ hh | replace hh := gtZt hΩ hh | replace hh := gtZf hΩ hh | replace hh := leZt hΩ hh | replace hh := leZf hΩ hh | replace hh := notA hΩ hh | replace hh := notB hΩ hh | skip) <;> (first | (exfalso; (first | omega | (cases hh; done) | (simp_all; done))) | cbv))
    | (refine call_pure hΩ 3 h1 rfl (fits _) rfl rfl ?_; cbv)
    | (refine call_pure hΩ 3 h2 rfl (fits _) rfl rfl ?_; cbv)
    | (refine call_pure hΩ 3 h3 rfl (fits _) rfl rfl ?_; cbv)
    | (refine eqX_eql hve o Ver.zero ?_; cbv)
    | (refine eqX_eql hve w Ver.zero ?_; cbv)
    | (refine ⟨VC_drawn htab hΩ hmo (by kernel_rfl) ?_⟩; cbv
       have L' := fun p hp => L p hp (l1 ‹N = 0›)
       first
       | (have hk := ‹k = 1›
          have L1 := L' [43, 32] rfl A3 (l3 ‹W = 0›)
          refine ⟨⟨L1.1⟩, ⟨L1.2.1⟩, ?_⟩
          refine QCall_pure (k := 3) (g3 ‹W = 0›) rfl (fits _) rfl ?_
          cbv
          refine ⟨⟨L1.2.2.1⟩, ⟨L1.2.2.2.1⟩, ?_⟩
          cbv
          exact .of (congrArg str (f1 ‹N = 0› ‹O = 0› ‹W = 0› ‹k = 1› ‹_›)))
       | (have hk := ‹k = 2›
          have L1 := L' [45, 32] rfl A2 (l2 ‹O = 0›)
          refine ⟨⟨L1.1⟩, ⟨L1.2.1⟩, ?_⟩
          refine QCall_pure (k := 3) (g2 ‹O = 0›) rfl (fits _) rfl ?_
          cbv
          refine ⟨⟨L1.2.2.1⟩, ⟨L1.2.2.2.1⟩, ?_⟩
          cbv
          exact .of (congrArg str (f2 ‹N = 0› ‹O = 0› ‹W = 0› ‹k = 2› ‹_›)))
       | (have hk := ‹k = 3›
          have L1 := L' [42, 32] rfl A2 (l2 ‹O = 0›)
          have L2 := L1.2.2.2.2.2 A3 (l3 ‹W = 0›)
          refine ⟨⟨L1.1⟩, ⟨L1.2.1⟩, ?_⟩
          refine QCall_pure (k := 3) (g2 ‹O = 0›) rfl (fits _) rfl ?_
          cbv
          refine ⟨⟨L1.2.2.1⟩, ⟨L1.2.2.2.2.1⟩, ?_⟩
          refine QCall_pure (k := 3) (g3 ‹W = 0›) rfl (fits _) rfl ?_
          cbv
          refine ⟨⟨L2.1⟩, ⟨L2.2⟩, ?_⟩
          cbv
          exact .of (congrArg str (f3 ‹N = 0› ‹O = 0› ‹W = 0› ‹k = 3›)))))
  all_goals clear htab hve hmo h1 h2 h3 g2 g3 L f1 f2 f3
  all_goals refine .of (congrArg str ?_)
  all_goals rw [hr]
  all_goals first
    | (simp [*]; done)
    | (rw [if_neg]; simp only [decide_eq_true ‹N = 0›, decide_eq_true ‹O = 0›, decide_eq_true ‹W = 0›, Bool.true_and, if_pos ‹k = 1›]; exact Bool.eq_false_iff.1 ‹_›)
    | (rw [if_neg]; simp only [decide_eq_true ‹N = 0›, decide_eq_true ‹O = 0›, decide_eq_true ‹W = 0›, Bool.true_and, if_neg ‹¬ k = 1›, if_pos ‹k = 2›]; exact Bool.eq_false_iff.1 ‹_›)
    | (rw [if_neg]; simp only [decide_eq_true ‹N = 0›, decide_eq_true ‹O = 0›, decide_eq_true ‹W = 0›, Bool.true_and, if_neg ‹¬ k = 1›, if_neg ‹¬ k = 2›, decide_eq_true_eq]; assumption)
end Go.Proofs.YtfmcncflooechaaGreatDoor

/- Walks: lists of changes as text. Plain theorems. -/
set_option linter.unusedVariables false
set_option linter.unusedSimpArgs false
namespace Go.Proofs.YtfmcncflooechaaGreatDoor
open Go Go.Fw
set_option maxRecDepth 100000
theorem sqT {Ω : Opq} (hΩ : Ω = std) {x y : List UInt8} (h : Ω.cmpS .eql x y = true) : x = y := by subst hΩ; exact of_decide_eq_true ((by simpa [cmpSS] using (show cmpSS .eql x y = true from h)))
theorem sqF {Ω : Opq} (hΩ : Ω = std) {x y : List UInt8} (h : Ω.cmpS .eql x y = false) : x ≠ y := by subst hΩ; exact fun e => by subst e; have h : cmpSS .eql x x = false := h; simp [cmpSS] at h
def fmtL : List Chg → List UInt8 → List UInt8
  | [], acc => acc
  | x :: xs, acc => if told x then fmtL xs (acc ++ lineT x) else []
/-- The changes' text. -/
def fmtC (cs : List Chg) : List UInt8 := fmtL cs []
theorem fmtL_at {cs : List Chg} {i : Nat} {c : Chg} {acc : List UInt8} (h : cs[i]? = some c) : fmtL (cs.drop i) acc = if told c then fmtL (cs.drop (i + 1)) (acc ++ lineT c) else [] := by
  obtain ⟨hi, rfl⟩ := List.getElem?_eq_some_iff.1 h
  rw [List.drop_eq_getElem_cons hi]; rfl
theorem c_specFormatChanges (cs : List Chg) (hb : cs.length ≤ 1048576) : PCtr PP n_spec_FormatChanges [.sl false 8 (cs.map Chg.enc)] (str (fmtC cs)) := by
  obtain ⟨Ω, hΩ⟩ : ∃ Ω, Ω = std := ⟨_, rfl⟩
  obtain ⟨xs, hxs⟩ : ∃ xs, xs = cs.map Chg.enc := ⟨_, rfl⟩
  have hxl : xs.length = cs.length := by rw [hxs, List.length_map]
  obtain ⟨r, hr⟩ : ∃ r, r = fmtC cs := ⟨_, rfl⟩
  rw [← hxs, ← hr]
  unfold fmtC at hr
  obtain ⟨n, hn⟩ : ∃ n, n = cs.length := ⟨_, rfl⟩
  have hc := c_l15Line
  have htab := tab
  refine PCtr.walk tab hΩ fn_spec_FormatChanges rfl ?_
  generalize PP = P at *
  cbv
  refine loopX htab hΩ (fun i : Nat × List UInt8 => ⟨[(0, .sl false 8 xs), (3, str i.2), (4, i64 (Ω.int i.1))], 23, []⟩) (fun i => i.1 ≤ n ∧ i.2.length ≤ 39 * i.1 ∧ r = fmtL (cs.drop i.1) i.2) (fun i => n - i.1) (0, []) ⟨Nat.zero_le _, Nat.le_refl _, hr⟩
    (Sbs.mk rfl rfl ⟨rfl, rfl, zeroI hΩ, trivial⟩) (fun i hi => ?_)
  obtain ⟨i, acc⟩ := i
  obtain ⟨hi, hal, hra⟩ := hi
  dsimp only at hi hal hra ⊢
  cbv
  refine br (fun h => ?_) (fun h => ?_) <;> cbv
  · replace h := ltI hΩ h
    obtain ⟨c, hcc⟩ := at_of (cs := cs) (by omega : i < _)
    refine ⟨⟨nnI hΩ⟩, _, rdI hΩ hxs hcc, ?_⟩
    have hcl := hc c
    rw [fmtL_at hcc] at hra
    unfold lineC at hcl
    have hll := lineT_len (x := c)
    generalize lineT c = L at *
    obtain ⟨Lr, hLr⟩ : ∃ Lr, Lr = if told c then L else [] := ⟨_, rfl⟩
    rw [← hLr] at hcl
    cbv
    refine call_pure hΩ 3 hcl rfl (fits _) rfl rfl ?_
    cbv
    refine br (fun h => ?_) (fun h => ?_) <;> cbv
    · replace h := sqT hΩ h
      refine .of (congrArg str ?_)
      rw [hra, if_neg]
      intro ht
      have := hll ht
      rw [if_pos ht] at hLr
      rw [← hLr, h] at this
      exact absurd this.2 (Nat.lt_irrefl 0)
    · replace h := sqF hΩ h
      have ht : told c = true := by
        rcases Bool.eq_false_or_eq_true (told c) with ht | ht
        · exact ht
        · rw [ht] at hLr; exact absurd hLr h
      rw [if_pos ht] at hLr hra
      subst hLr
      have hl2 := hll ht
      have hcl2 : (Ω.cat acc Lr).length = acc.length + Lr.length := catL hΩ
      refine ⟨⟨obC (by omega)⟩, ?_⟩
      cbv
      exact ⟨(i + 1, Ω.cat acc Lr), ⟨by show i + 1 ≤ n; omega, by show (Ω.cat acc Lr).length ≤ 39 * (i + 1); omega, by subst hΩ; exact hra⟩, by show n - (i + 1) < n - i; omega, Sbs.mk rfl rfl ⟨rfl, rfl, incI hΩ (by omega), trivial⟩⟩
  · replace h := geI hΩ h
    have : i = cs.length := by omega
    subst this
    rw [List.drop_length] at hra
    exact .of (congrArg str hra.symm)
theorem c_implFormatChanges (cs : List Chg) (hb : cs.length ≤ 1048576) : PCtr PP n_impl_FormatChanges [.sl false 8 (cs.map Chg.enc)] (str (fmtC cs)) := by
  obtain ⟨Ω, hΩ⟩ : ∃ Ω, Ω = std := ⟨_, rfl⟩
  obtain ⟨xs, hxs⟩ : ∃ xs, xs = cs.map Chg.enc := ⟨_, rfl⟩
  have hxl : xs.length = cs.length := by rw [hxs, List.length_map]
  obtain ⟨r, hr⟩ : ∃ r, r = fmtC cs := ⟨_, rfl⟩
  rw [← hxs, ← hr]
  unfold fmtC at hr
  obtain ⟨n, hn⟩ : ∃ n, n = cs.length := ⟨_, rfl⟩
  have hc := c_isTold
  have htx := c_text
  have hjn := c_joined
  have htab := tab
  have hmo : PP.follows .mixedOrders = true := by kernel_rfl
  refine PCtr.walk tab hΩ fn_impl_FormatChanges rfl ?_
  generalize PP = P at *
  cbv
  refine loopX htab hΩ (fun i : Nat × List UInt8 => ⟨[(0, .sl false 8 xs), (3, str i.2), (7, .sl false 8 xs), (8, i64 (Ω.int (Ω.len xs))), (9, i64 (Ω.int i.1))], 50, []⟩) (fun i => i.1 ≤ n ∧ i.2.length ≤ 39 * i.1 ∧ r = fmtL (cs.drop i.1) i.2) (fun i => n - i.1) (0, []) ⟨Nat.zero_le _, Nat.le_refl _, hr⟩
    (Sbs.mk rfl rfl ⟨rfl, rfl, rfl, rfl, zeroI hΩ, trivial⟩) (fun i hi => ?_)
  obtain ⟨i, acc⟩ := i
  obtain ⟨hi, hal, hra⟩ := hi
  dsimp only at hi hal hra ⊢
  cbv
  refine br (fun h => ?_) (fun h => ?_) <;> cbv
  · replace h := ltI hΩ h
    obtain ⟨c, hcc⟩ := at_of (cs := cs) (by omega : i < _)
    refine ⟨⟨nnI hΩ⟩, _, rdI hΩ hxs hcc, ?_⟩
    have hcl := hc c
    rw [fmtL_at hcc] at hra
    have hll := lineT_len (x := c)
    have htd := told_of (x := c)
    obtain ⟨k, nm, o, w⟩ := c
    dsimp only at *
    generalize told ⟨k, nm, o, w⟩ = t at *
    cbv
    refine call_pure hΩ 3 hcl rfl (fits _) rfl rfl ?_
    cbv
    refine br (fun h => ?_) (fun h => ?_) <;> cbv
    · refine .of (congrArg str ?_)
      rw [hra, if_neg (by rw [notT' hΩ h]; decide)]
    · have ht := notF' hΩ h
      obtain ⟨hN, hO, hW⟩ := htd ht
      rw [if_pos ht] at hra
      replace hll := hll ht
      have g2 := htx o hO
      have g3 := htx w hW
      have l1 := nameF_len hN
      have l2 := verT_len hO
      have l3 := verT_len hW
      have j1 := hjn [[43], nm, verT w] (by simp) (by rw [join3]; simp; omega)
      have j2 := hjn [[45], nm, verT o] (by simp) (by rw [join3]; simp; omega)
      have j3 := hjn [[42], nm, verT o, verT w] (by simp) (by rw [join4]; simp; omega)
      have e1 : ¬ k = 2 → ¬ k = 3 → lineT ⟨k, nm, o, w⟩ = Lib.join [[43], nm, verT w] [32] ++ [10] := fun h1 h2 => by unfold lineT wordsT; dsimp only; rw [if_neg h1, if_neg h2]
      have e2 : k = 2 → lineT ⟨k, nm, o, w⟩ = Lib.join [[45], nm, verT o] [32] ++ [10] := fun h1 => by unfold lineT wordsT; dsimp only; rw [if_pos h1]
      have e3 : k = 3 → lineT ⟨k, nm, o, w⟩ = Lib.join [[42], nm, verT o, verT w] [32] ++ [10] := fun h1 => by unfold lineT wordsT; dsimp only; rw [if_neg (by omega), if_pos h1]
      generalize lineT ⟨k, nm, o, w⟩ = L at *
      generalize Lib.join [[43], nm, verT w] [32] = J1 at *
      generalize Lib.join [[45], nm, verT o] [32] = J2 at *
      generalize Lib.join [[42], nm, verT o, verT w] [32] = J3 at *
      generalize verT o = A2 at *
      generalize verT w = A3 at *
      have fin : ∀ J : List UInt8, L = J ++ [10] → ((J.length + [(10 : UInt8)].length : Nat) : Int) ≤ 9223372036854775807 ∧ ((acc.length + (Ω.cat J [10]).length : Nat) : Int) ≤ 9223372036854775807 ∧ (i + 1 ≤ n ∧ (Ω.cat acc (Ω.cat J [10])).length ≤ 39 * (i + 1) ∧ r = fmtL (cs.drop (i + 1)) (Ω.cat acc (Ω.cat J [10]))) := fun J hJ => by
        have hl : L.length = J.length + 1 := by rw [hJ, List.length_append, List.length_singleton]
        refine ⟨obC (by rw [List.length_singleton]; omega), obC (by rw [catL hΩ, List.length_singleton]; omega), by omega, by rw [catL hΩ, catL hΩ, List.length_singleton]; omega, ?_⟩
        subst hΩ
        rw [hJ] at hra; exact hra
      have hin : i + 1 < 9223372036854775807 := by omega
      clear hra hal hcc hc htx hjn hcl htd hll
      refine ⟨VC.sub (VC_plan htab hΩ hmo (.qs [0, 1, 2, 3] (.s 4 (.s 5 (.s 6 .fin)))) (by kernel_rfl) ?_) ((Sbs.unlk (r := 0) rfl rfl).trans (Sbs.thaw0 (r := 0) rfl rfl rfl))⟩
      cbv
      refine call_pure hΩ 3 g3 rfl (fits _) rfl rfl ?_
      cbv
      repeat' (first
        | (refine br (fun hh => ?_) (fun hh => ?_) <;> (repeat' (first | replace hh := iteA hΩ hh | replace hh := iteB hΩ hh)) <;> (first | replace hh := neZt hΩ hh | replace hh := neZf hΩ hh | replace hh := eqZt hΩ hh | replace hh := eqZf hΩ hh | replace hh := ltZt hΩ hh | replace hh := ltZf hΩ hh | replace hh := geZt hΩ hh | replace hh := geZf hΩ hh | replace hh := gtZt hΩ hh | replace hh := gtZf hΩ hh | replace hh := leZt hΩ hh | replace hh := leZf hΩ hh | replace hh := notA hΩ hh | replace hh := notB hΩ hh | skip) <;> (first | (exfalso; (first | omega | (cases hh; done) | (simp_all; done))) | cbv))
        | (have hk := ‹k = 2›
           refine ⟨VC.sub (VC_plan htab hΩ hmo (.qs [0, 1, 2, 3] (.s 4 (.s 5 (.s 6 .fin)))) (by kernel_rfl) ?_) (Sbs.cut 0 rfl)⟩
           cbv
           refine call_pure hΩ 3 g2 rfl (fits _) rfl rfl ?_
           cbv)
        | (have hk := ‹k = 3›
           refine ⟨VC.sub (VC_plan htab hΩ hmo (.qs [0, 1, 2, 3, 5, 6] (.s 4 (.s 7 (.s 8 (.s 9 .fin))))) (by kernel_rfl) ?_) (Sbs.cut 0 rfl)⟩
           cbv
           refine call_pure hΩ 3 g2 rfl (fits _) rfl rfl ?_
           cbv
           refine call_pure hΩ 3 g3 rfl (fits _) rfl rfl ?_
           cbv))
      all_goals first
        | (have hk := ‹k = 2›
           have F := fin J2 (e2 hk)
           refine call_pure hΩ 3 j2 (mapO1 (ro_vw rfl rfl rfl)) (fits _) rfl rfl ?_
           cbv
           refine ⟨⟨F.1⟩, ⟨F.2.1⟩, ?_⟩
           cbv
           exact ⟨(i + 1, Ω.cat acc (Ω.cat J2 [10])), F.2.2, by show n - (i + 1) < n - i; have := F.2.2.1; omega, (Sbs.cut 0 rfl).trans (Sbs.mk rfl rfl ⟨rfl, rfl, rfl, rfl, incI hΩ (by omega), trivial⟩)⟩)
        | (have hk := ‹k = 3›
           have F := fin J3 (e3 hk)
           refine call_pure hΩ 3 j3 (mapO1 (ro_vw rfl rfl rfl)) (fits _) rfl rfl ?_
           cbv
           refine ⟨⟨F.1⟩, ⟨F.2.1⟩, ?_⟩
           cbv
           exact ⟨(i + 1, Ω.cat acc (Ω.cat J3 [10])), F.2.2, by show n - (i + 1) < n - i; have := F.2.2.1; omega, (Sbs.cut 0 rfl).trans (Sbs.mk rfl rfl ⟨rfl, rfl, rfl, rfl, incI hΩ (by omega), trivial⟩)⟩)
        | (have hk := ‹¬ k = 2›
           have hk3 := ‹¬ k = 3›
           have F := fin J1 (e1 hk hk3)
           refine call_pure hΩ 3 j1 (mapO1 (ro_vw rfl rfl rfl)) (fits _) rfl rfl ?_
           cbv
           refine ⟨⟨F.1⟩, ⟨F.2.1⟩, ?_⟩
           cbv
           exact ⟨(i + 1, Ω.cat acc (Ω.cat J1 [10])), F.2.2, by show n - (i + 1) < n - i; have := F.2.2.1; omega, (Sbs.cut 0 rfl).trans (Sbs.mk rfl rfl ⟨rfl, rfl, rfl, rfl, incI hΩ (by omega), trivial⟩)⟩)
  · replace h := geI hΩ h
    have : i = cs.length := by omega
    subst this
    rw [List.drop_length] at hra
    exact .of (congrArg str hra.symm)
end Go.Proofs.YtfmcncflooechaaGreatDoor

/- Texts cut at a byte; the library's Split, as a contract. Plain theorems. -/
set_option linter.unusedVariables false
set_option linter.unusedSimpArgs false
namespace Go.Proofs
open Go.Shelf
def Tryz.genS_ren : Go.Shelf.Ren := ⟨fun | 221 => 66 | 268 => 89 | 138 => 90 | 143 => 91 | 195 => 103 | 197 => 104 | 218 => 105 | 219 => 106 | 260 => 112 | 217 => 113 | 225 => 114 | 224 => 115 | 267 => 116 | 266 => 119 | 314 => 120 | n => n, fun | 9 => 9 | 3 => 3 | 31 => 43 | 4 => 4 | 0 => 0 | 105 => 147 | 21 => 21 | 5 => 5 | 46 => 156 | 119 => 159 | 139 => 162 | 138 => 161 | 146 => 163 | 51 => 153 | n => n, fun | 1 => 1 | 3 => 2 | 4 => 3 | n => n⟩
theorem Tryz.genS : Go.Proofs.Lays.n221 Tryz.prog Tryz.genS_ren where
  mixed := by kernel_rfl
  f138 := Tryz.func90.trans (congrArg some (by kernel_rfl))
  f143 := Tryz.func91.trans (congrArg some (by kernel_rfl))
  f195 := Tryz.func103.trans (congrArg some (by kernel_rfl))
  f197 := Tryz.func104.trans (congrArg some (by kernel_rfl))
  f217 := Tryz.func113.trans (congrArg some (by kernel_rfl))
  f218 := Tryz.func105.trans (congrArg some (by kernel_rfl))
  f219 := Tryz.func106.trans (congrArg some (by kernel_rfl))
  f221 := Tryz.func66.trans (congrArg some (by kernel_rfl))
  f224 := Tryz.func115.trans (congrArg some (by kernel_rfl))
  f225 := Tryz.func114.trans (congrArg some (by kernel_rfl))
  f260 := Tryz.func112.trans (congrArg some (by kernel_rfl))
  f266 := Tryz.func119.trans (congrArg some (by kernel_rfl))
  f267 := Tryz.func116.trans (congrArg some (by kernel_rfl))
  f268 := Tryz.func89.trans (congrArg some (by kernel_rfl))
  f314 := Tryz.func120.trans (congrArg some (by kernel_rfl))
  t0 := Tryz.underlying0
  a0 := Tryz.isAgg0
  z0 := Tryz.sizeOf0
  v0 := Tryz.zeroValue0
  t3 := Tryz.underlying3
  a3 := Tryz.isAgg3
  z3 := Tryz.sizeOf3
  v3 := Tryz.zeroValue3
  t4 := Tryz.underlying4
  a4 := Tryz.isAgg4
  z4 := Tryz.sizeOf4
  v4 := Tryz.zeroValue4
  t5 := Tryz.underlying5
  a5 := Tryz.isAgg5
  z5 := Tryz.sizeOf5
  v5 := Tryz.zeroValue5
  t9 := Tryz.underlying9
  a9 := Tryz.isAgg9
  z9 := Tryz.sizeOf9
  v9 := Tryz.zeroValue9
  t21 := Tryz.underlying21
  a21 := Tryz.isAgg21
  z21 := Tryz.sizeOf21
  v21 := Tryz.zeroValue21
  t31 := Tryz.underlying43
  a31 := Tryz.isAgg43
  z31 := Tryz.sizeOf43
  v31 := Tryz.zeroValue43
  t46 := Tryz.underlying156
  a46 := Tryz.isAgg156
  z46 := Tryz.sizeOf156
  v46 := Tryz.zeroValue156
  t51 := Tryz.underlying153
  a51 := Tryz.isAgg153
  z51 := Tryz.sizeOf153
  v51 := Tryz.zeroValue153
  t105 := Tryz.underlying147
  a105 := Tryz.isAgg147
  z105 := Tryz.sizeOf147
  v105 := Tryz.zeroValue147
  t119 := Tryz.underlying159
  a119 := Tryz.isAgg159
  z119 := Tryz.sizeOf159
  t138 := Tryz.underlying161
  a138 := Tryz.isAgg161
  z138 := Tryz.sizeOf161
  v138 := Tryz.zeroValue161
  t139 := Tryz.underlying162
  a139 := Tryz.isAgg162
  z139 := Tryz.sizeOf162
  v139 := Tryz.zeroValue162
  t146 := Tryz.underlying163
  a146 := Tryz.isAgg163
  z146 := Tryz.sizeOf163
  v146 := Tryz.zeroValue163
  g1 := by kernel_rfl
  g3 := by kernel_rfl
  g4 := by kernel_rfl

end Go.Proofs
namespace Go.Proofs.YtfmcncflooechaaGreatDoor
open Go Go.Fw Go.Proofs Go.Lib
set_option maxRecDepth 100000
/-- A text cut at a byte. -/
def cutAt (c : UInt8) : List UInt8 → List (List UInt8)
  | [] => [[]]
  | x :: xs => if x = c then [] :: cutAt c xs else match cutAt c xs with
    | [] => [[x]]
    | y :: ys => (x :: y) :: ys
theorem cutAt_ne {c : UInt8} : ∀ {s : List UInt8}, cutAt c s ≠ []
  | [] => by simp [cutAt]
  | x :: xs => by
    unfold cutAt
    split
    · simp
    · split <;> simp
theorem cutAt_len {c : UInt8} : ∀ {s : List UInt8}, (cutAt c s).length ≤ s.length + 1
  | [] => by simp [cutAt]
  | x :: xs => by
    have ih := cutAt_len (c := c) (s := xs)
    unfold cutAt
    split
    · simp only [List.length_cons]; omega
    · split
      · simp
      · rename_i h; rw [h] at ih; simp only [List.length_cons] at ih ⊢; omega
theorem cutAt_mem {c : UInt8} : ∀ {s l : List UInt8}, l ∈ cutAt c s → l.length ≤ s.length
  | [], l, h => by simp [cutAt] at h; simp [h]
  | x :: xs, l, h => by
    unfold cutAt at h
    split at h
    · rcases List.mem_cons.1 h with rfl | h
      · simp
      · have := cutAt_mem h; simp only [List.length_cons]; omega
    · split at h
      · rename_i he; exact absurd he cutAt_ne
      · rename_i y ys he
        rcases List.mem_cons.1 h with rfl | h
        · have := cutAt_mem (c := c) (s := xs) (l := y) (by rw [he]; simp); simp only [List.length_cons]; omega
        · have := cutAt_mem (c := c) (s := xs) (l := l) (by rw [he]; simp [h]); simp only [List.length_cons]; omega
theorem index_cons (b c : UInt8) (l : List UInt8) : Lib.index (b :: l) [c] = if b = c then 0 else if Lib.index l [c] = -1 then -1 else Lib.index l [c] + 1 := by
  rw [Lib.index]
  by_cases h : b = c
  · subst h; simp [List.isPrefixOf]
  · have hp : ([c] : List UInt8).isPrefixOf (b :: l) = false := by simp [List.isPrefixOf, Ne.symm h]
    rw [hp, if_neg h]
    simp
theorem splitK_cut (c : UInt8) : ∀ s : List UInt8, splitK [c] 0 (Lib.count s [c]) s = cutAt c s
  | [] => by rw [count_miss (by simp [Lib.index])]; rfl
  | b :: l => by
    have ih := splitK_cut c l
    by_cases h : b = c
    · subst h
      rw [count_cons_eq, Nat.add_comm, splitK, index_cons, if_pos rfl]
      simp only [cutAt, if_true]
      rw [← ih]; simp
    · rw [count_cons_ne b c l h]
      simp only [cutAt, if_neg h]
      rw [← ih]
      cases hk : Lib.count l [c] with
      | zero => simp [splitK]
      | succ k =>
        have hm : Lib.index l [c] ≠ -1 := fun e => by rw [count_miss e] at hk; cases hk
        have hge := index_ge l [c]
        obtain ⟨j, hj⟩ : ∃ j : Nat, Lib.index l [c] = j := ⟨(Lib.index l [c]).toNat, by omega⟩
        have e1 : (((j : Int) + 1) == -1) = false := beq_eq_false_iff_ne.2 (by omega)
        have e2 : ((j : Int) == -1) = false := beq_eq_false_iff_ne.2 (by omega)
        have e3 : ((j : Int) + 1).toNat = j + 1 := by omega
        simp only [splitK, index_cons, if_neg h, if_neg hm]
        rw [hj]
        simp only [e1, e2, e3, Int.toNat_natCast, Bool.false_eq_true, if_false, Nat.add_zero, List.length_singleton]
        simp
theorem relC1 {w : World} {G : Nat → Prop} {x : A} {xs : List A} {vs : List Value} (h : RelL w G (x :: xs) vs []) : ∃ v us, vs = v :: us ∧ Rel w G x v [] ∧ RelL w G xs us [] := by
  generalize hF : ([] : List Nat) = F at h
  generalize hx : x :: xs = ys at h
  cases h with
  | nil => cases hx
  | cons h hl =>
    cases hx
    obtain ⟨rfl, rfl⟩ := List.append_eq_nil_iff.1 hF.symm
    exact ⟨_, _, rfl, h, hl⟩
theorem ofS1 {w : World} {G : Nat → Prop} : ∀ (xs : List (List UInt8)), RelL w G (xs.map str) (xs.map fun c => Value.string (mkS c)) []
  | [] => .nil
  | x :: xs => .cons (F := []) (Fs := []) (.sc rfl) (ofS1 xs)
theorem flatS1 (xs : List (List UInt8)) : flat (xs.map str) = xs.map str := by
  induction xs with
  | nil => rfl
  | cons x xs ih => simp only [flat, List.map_cons, List.flatMap_cons] at *; rw [ih]; rfl
theorem c_genSplit (c : UInt8) (s : List UInt8) (hs : s.length ≤ 1048576) : PCtr PP n_strings_genSplit [str s, str [c], i64 0, i64 (-1)] (.sl true 1 ((cutAt c s).map str)) := by
  refine ⟨fn_strings_genSplit.1, fun w G vs hG hl => ?_⟩
  obtain ⟨v1, us, rfl, h1, hl⟩ := relC1 hl
  obtain ⟨v2, us, rfl, h2, hl⟩ := relC1 hl
  obtain ⟨v3, us, rfl, h3, hl⟩ := relC1 hl
  obtain ⟨v4, us, rfl, h4, hl⟩ := relC1 hl
  cases hl
  cases h1
  cases h2
  cases h3
  cases h4
  have hsz : (mkS s).size = s.length := rfl
  have h1c : 1 ≤ (mkS [c]).size := Nat.le_refl 1
  have L := Tryz.genS
  have L143 : Go.Proofs.Lays.n143 PP Tryz.genS_ren := { L with }
  have L138 : Go.Proofs.Lays.n138 PP Tryz.genS_ren := { L with }
  have hle := countB_le (mkS [c]) h1c (mkS s).size (mkS s) (Nat.le_refl _)
  have hlen := splitB_all (mkS [c]) h1c 0 _ (mkS s) rfl
  have hd : (splitB (mkS [c]) 0 (countB (mkS s) (mkS [c])) (mkS s)).map (·.data.toList) = cutAt c s := by rw [splitB_data]; exact splitK_cut c s
  have hcl : (cutAt c s).length = countB (mkS s) (mkS [c]) + 1 := by rw [← hd, List.length_map, hlen]
  have ht : (PP.info? (Tryz.genS_ren.t 9)).map (fun i => (i.zero, i.size, i.bytes)) = some (some (.string ByteArray.empty), 1, 16) := by kernel_rfl
  have g := Any.strings_genSplit_core Tryz.genS ht (mkS s) (mkS [c]) 0 (-1) (countB (mkS s) (mkS [c]) + 1) w (by rw [hsz]; omega) h1c (Nat.zero_le _)
    (fun x cc hx => (Any.strings_Index_one L143 x c _).mono fun e w' ⟨he, hw⟩ => ⟨by rw [he]; exact congrArg (fun z => Ending.returned (Value.int .i64 z)) (index_one _ _).symm, hw⟩)
    ((Any.strings_Count_one L138 (mkS s) c w).mono fun e w' ⟨he, hw⟩ => ⟨by rw [he]; exact congrArg (fun z : Nat => Ending.returned (Value.int .i64 (z : Int))) (count_one _ _).symm, hw⟩) (by decide) (by decide) (by rw [if_pos (by decide)]; omega)
  rw [Nat.add_sub_cancel, hlen] at g
  have e2 : cellsOf (splitB (mkS [c]) 0 (countB (mkS s) (mkS [c])) (mkS s)) (countB (mkS s) (mkS [c]) + 1) = ((splitB (mkS [c]) 0 (countB (mkS s) (mkS [c])) (mkS s)).map Value.string).toArray := by rw [← hlen]; exact cellsOf_full _
  have e3 : (splitB (mkS [c]) 0 (countB (mkS s) (mkS [c])) (mkS s)).map Value.string = (cutAt c s).map fun c => Value.string (mkS c) := by
    rw [← hd, List.map_map]
    exact List.map_congr_left fun x _ => rfl
  rw [e2, e3] at g
  refine Calls.mono g ?_
  rintro e w' ⟨rfl, rfl⟩
  refine ⟨_, [w.heap.size], rfl, ⟨rfl, rfl, rfl, by simp, fun b hb => heap_alloc_old w _ hb⟩, by simp, by simp, ?_⟩
  refine .ow (F := []) (heap_alloc_new w _) (fun x hx => by obtain ⟨y, _, rfl⟩ := List.mem_map.1 hx; rfl) (by rw [List.length_map]; exact hcl.symm) (by rw [Nat.mul_one, ← hcl, List.take_of_length_le (by simp)]) (by rw [flatS1]; exact ofS1 _) (Nat.le_refl _) (by unfold maxLen; omega) (by simp; omega) (fun v hv => by obtain ⟨y, _, rfl⟩ := List.mem_map.1 hv; rfl)
end Go.Proofs.YtfmcncflooechaaGreatDoor

/- Walks: texts cut into pieces, lines, words. Plain theorems. -/
set_option linter.unusedVariables false
set_option linter.unusedSimpArgs false
namespace Go.Proofs.YtfmcncflooechaaGreatDoor
open Go Go.Fw
set_option maxRecDepth 100000
theorem c_Split (c : UInt8) (s : List UInt8) (hs : s.length ≤ 1048576) : PCtr PP n_strings_Split [str s, str [c]] (.sl true 1 ((cutAt c s).map str)) := by
  obtain ⟨Ω, hΩ⟩ : ∃ Ω, Ω = std := ⟨_, rfl⟩
  have hc := c_genSplit c s hs
  have rs : roFree (.sl true 1 ((cutAt c s).map str)) = true := roFAll fun x hx => by obtain ⟨c, _, rfl⟩ := List.mem_map.1 hx; rfl
  have htab := tab
  generalize (cutAt c s).map str = ys at *
  refine PCtr.walk tab hΩ fn_strings_Split rfl ?_
  generalize PP = P at *
  cbv
  refine call_pure hΩ 3 hc rfl (fits _) rs rfl ?_
  cbv
  exact ⟨⟨rfl, by subst hΩ; exact Nat.le_refl _⟩, .of (congrArg (A.sl true 1) (takeAll hΩ _))⟩
end Go.Proofs.YtfmcncflooechaaGreatDoor

/- Walks: lists of texts by a function value; words, lines. Plain theorems. -/
set_option linter.unusedVariables false
set_option linter.unusedSimpArgs false
namespace Go.Proofs.YtfmcncflooechaaGreatDoor
open Go Go.Fw
set_option maxRecDepth 100000
theorem noStrS (l : List (List UInt8)) : (∀ y ∈ l.map str, noOwn y = true) ∧ (∀ c ∈ flat (l.map str), okCell c = true) ∧ (∀ y ∈ l.map str, isAggB y = false) ∧ (∀ y ∈ l.map str, vStore.isAggA y = false) := by
  refine ⟨fun y hy => ?_, fun y hy => ?_, fun y hy => ?_, fun y hy => ?_⟩
  · obtain ⟨c, _, rfl⟩ := List.mem_map.1 hy; rfl
  · rw [flatS1] at hy; obtain ⟨c, _, rfl⟩ := List.mem_map.1 hy; rfl
  · obtain ⟨c, _, rfl⟩ := List.mem_map.1 hy; rfl
  · obtain ⟨c, _, rfl⟩ := List.mem_map.1 hy; rfl
theorem idx_specS (p : List UInt8 → Bool) : ∀ (l : List (List UInt8)) (i : Nat), (idxFrom p i l = -1 ∧ (l.filter fun x => !p x) = l) ∨ ∃ m, idxFrom p i l = ((i + m : Nat) : Int) ∧ m < l.length ∧ ((l.take (m + 1)).filter fun x => !p x) = l.take m
  | [], i => .inl ⟨rfl, rfl⟩
  | x :: xs, i => by
    rw [idxFrom]
    by_cases h : p x = true
    · right
      refine ⟨0, by rw [if_pos h]; simp, by simp, by simp [h]⟩
    · rw [if_neg h]
      rcases idx_specS p xs (i + 1) with ⟨h1, h2⟩ | ⟨m, h1, h2, h3⟩
      · left
        refine ⟨h1, ?_⟩
        rw [List.filter_cons_of_pos (by simpa using h), h2]
      · right
        refine ⟨m + 1, by rw [h1]; congr 1; omega, by simp; omega, ?_⟩
        rw [List.take_succ_cons, List.filter_cons_of_pos (by simpa using h), h3, List.take_succ_cons]
theorem filter_atS {p : List UInt8 → Bool} {s : List (List UInt8)} {j : Nat} {c : List UInt8} (h : s[j]? = some c) : ((s.take (j + 1)).filter fun x => !p x) = ((s.take j).filter fun x => !p x) ++ (if p c then [] else [c]) := by
  rw [List.take_add_one, h, List.filter_append]
  congr 1
  by_cases hc : p c <;> simp [hc]
theorem c_DeleteFuncS (s : List (List UInt8)) (hs : s.length ≤ 1048576) (g : Nat) (caps : List A) (p : List UInt8 → Bool) (hf : CloB PP str s g caps p) : ECtr PP n_slices_DeleteFunc_L_string_string [.sl true 1 (s.map str), .clo g caps] (.sl true 1 ((s.filter fun x => !p x).map str)) := by
  obtain ⟨Ω, hΩ⟩ : ∃ Ω, Ω = std := ⟨_, rfl⟩
  have hc := c_IndexFuncS s (by omega) g caps p hf
  have hro := hf.ro
  have hcn := hf.no
  have hrun : ∀ x ∈ s, PCtr PP (Ω.cloN g) (Ω.cloA g [str x] caps) (boo (p x)) := by subst hΩ; exact hf.run
  obtain ⟨k, hk⟩ : ∃ k, idx p s = k := ⟨_, rfl⟩
  rw [hk] at hc
  obtain ⟨xs, hxs⟩ : ∃ xs, xs = s.map str := ⟨_, rfl⟩
  have hlen : xs.length = s.length := by rw [hxs, List.length_map]
  have hno := noStrS s
  have hfz := frzStr s
  rw [← hxs] at hno hfz hc ⊢
  have hle : Ω.len xs = xs.length := by subst hΩ; rfl
  obtain ⟨zs, hzs⟩ : ∃ zs, zs = (s.filter fun x => !p x).map str := ⟨_, rfl⟩
  rw [← hzs]
  have htab := tab
  refine ECtr.walk tab hΩ 3 fn_slices_DeleteFunc_L_string_string rfl (by simp only [rootO, rootO.rootOL, List.all_cons, List.all_nil, noOwn_vw, noOwn_clo, hcn]; rfl) ?_
  generalize PP = P at *
  cbv
  refine call_pure hΩ 5 hc (ro_clo2 (roV rfl hle hfz) (hro _ 0)) (fits _) rfl rfl ?_
  cbv
  refine br (fun g1 => ?_) (fun g1 => ?_) <;> cbv
  · have g1 : k = -1 := eqI_t hΩ g1
    rcases idx_specS p s 0 with ⟨h1, h2⟩ | ⟨m, h1, _⟩
    · refine ⟨⟨rfl, by subst hΩ; exact Nat.le_refl _⟩, .of ?_⟩
      rw [hzs, h2, ← hxs]
      subst hΩ
      show A.sl true 1 (xs.take xs.length) = _
      rw [List.take_length]
    · have : k = ((0 + m : Nat) : Int) := by rw [← hk]; exact h1
      omega
  have g1 : k ≠ -1 := eqI_f hΩ g1
  obtain ⟨m, hkm, hml, hfm⟩ : ∃ m : Nat, k = Ω.int m ∧ m < s.length ∧ ((s.take (m + 1)).filter fun x => !p x) = s.take m := by
    rcases idx_specS p s 0 with ⟨h1, _⟩ | ⟨m, h1, h2, h3⟩
    · exact absurd (hk.symm.trans h1) g1
    · rw [Nat.zero_add] at h1
      exact ⟨m, by subst hΩ; exact hk.symm.trans h1, h2, h3⟩
  subst hkm
  obtain ⟨F, hF⟩ : ∃ F : Nat → List (List UInt8), F = fun j => (s.take j).filter fun x => !p x := ⟨_, rfl⟩
  have hFat : ∀ j c, s[j]? = some c → F (j + 1) = F j ++ (if p c then [] else [c]) := fun j c h => by rw [hF]; exact filter_atS h
  have hFm : F (m + 1) = s.take m := by rw [hF]; exact hfm
  have hFml : (F (m + 1)).length = m := by rw [hFm]; simp; omega
  have hFn : F s.length = s.filter fun x => !p x := by rw [hF]; simp only; rw [List.take_length]
  refine loopX htab hΩ (fun i : Nat × List A => ⟨[(0, .vw 0 0 (Ω.len xs)), (1, .clo g caps), (5, .sc (.int .i64 (Ω.int (F i.1).length))), (6, .sc (.int .i64 (Ω.int i.1)))], 42, [some ⟨1, i.2, false⟩]⟩)
    (fun i => (F i.1).length < i.1 ∧ i.1 ≤ s.length ∧ i.2.length = s.length ∧ i.2.take (F i.1).length = (F i.1).map str ∧ (∀ q, i.1 ≤ q → i.2[q]? = xs[q]?) ∧ (∀ y ∈ i.2, isAggB y = false) ∧ (∀ y ∈ i.2, vStore.isAggA y = false))
    (fun i => s.length - i.1) (m + 1, xs) ⟨by dsimp only; omega, by dsimp only; omega, hlen, ?_, fun _ _ => rfl, hno.2.2.1, hno.2.2.2⟩ (Sbs.mk rfl rfl ⟨rfl, rfl, by rw [hFml]; rfl, incI hΩ (by omega), trivial⟩) ?_
  · dsimp only
    rw [hFml, hFm, hxs, List.map_take]
  rintro ⟨j, ys⟩ ⟨h1, h2, h3, h4, h5, h6, h7⟩
  dsimp only at h1 h2 h3 h4 h5 h6 h7
  obtain ⟨f, hf2⟩ : ∃ f, f = (F j).length := ⟨_, rfl⟩
  rw [← hf2] at h1 h4
  dsimp only
  rw [← hf2]
  cbv
  refine br (fun h => ?_) (fun h => ?_) <;> cbv
  · replace h := ltI hΩ h
    obtain ⟨c, hcc⟩ := at_of (cs := s) (by omega : j < s.length)
    have hyj : ys[j]? = some (str c) := by rw [h5 j (Nat.le_refl _), hxs, List.getElem?_map, hcc]; rfl
    have hFj := hFat j c hcc
    have hr1 := hrun c (List.mem_of_getElem? hcc)
    refine ⟨⟨ixI hΩ (by show j < Ω.len xs; rw [hle]; exact h)⟩, str c, atI hΩ hyj, ?_⟩
    cbv
    refine call_pure hΩ 4 hr1 (ro_cloA hΩ rfl (hro _ 0)) (fits _) rfl rfl ?_
    cbv
    refine br (fun g => ?_) (fun g => ?_) <;> cbv
    · have g := notT' hΩ g
      rw [g] at hFj
      have hFl : (F (j + 1)).length = f + 1 := by rw [hFj, hf2]; simp
      have hfl : f < ys.length := by omega
      refine ⟨⟨ixI hΩ (by show f < Ω.len xs; rw [hle]; omega)⟩, ⟨by subst hΩ; show 0 + f < ys.length; omega, h7⟩, ?_⟩
      refine ⟨(j + 1, ys.set f (str c)), ⟨by dsimp only; omega, by dsimp only; omega, by simpa using h3, ?_, fun q hq => ?_, fun y hy => ?_, fun y hy => ?_⟩, by dsimp only; omega, Sbs.mk rfl ?_ ⟨rfl, rfl, ?_, incI hΩ (by omega), trivial⟩⟩
      · dsimp only; rw [hFl, take_set_add hfl, h4, hFj, List.map_append]; rfl
      · dsimp only at hq ⊢; rw [List.getElem?_set_ne (by omega)]; exact h5 q (by omega)
      · rcases List.mem_or_eq_of_mem_set hy with hy | rfl
        · exact h6 y hy
        · rfl
      · rcases List.mem_or_eq_of_mem_set hy with hy | rfl
        · exact h7 y hy
        · rfl
      · subst hΩ; show [some (Row.mk 1 (ys.set (0 + f) (str c)) false)] = _; rw [Nat.zero_add]
      · dsimp only; rw [hFl]; exact incI hΩ (by omega)
    · have g : p c = true := notF' hΩ g
      rw [g] at hFj
      have hFl : (F (j + 1)).length = f := by rw [hFj, hf2]; simp
      exact ⟨(j + 1, ys), ⟨by dsimp only; omega, by dsimp only; omega, h3, by dsimp only; rw [hFl, h4, hFj]; simp, fun q hq => h5 q (by dsimp only at hq; omega), h6, h7⟩, by dsimp only; omega, Sbs.mk rfl rfl ⟨rfl, rfl, by dsimp only; rw [hFl]; rfl, incI hΩ (by omega), trivial⟩⟩
  · have hj : j = s.length := by have := geI hΩ h; omega
    subst hj
    refine ⟨⟨nnI hΩ, trivial, ?_, Nat.le_refl _⟩, ⟨?_, h6⟩, ⟨trivial, nnI hΩ, Nat.zero_le _, ?_⟩, ⟨?_, ?_⟩, .of ?_⟩
    · subst hΩ; show f ≤ xs.length; omega
    · subst hΩ; show 0 + f + (xs.length - f) = ys.length; omega
    · subst hΩ; show f ≤ xs.length; omega
    · subst hΩ; rfl
    · subst hΩ; show f - 0 ≤ (ys.take (0 + f) ++ List.replicate (xs.length - f) (A.sc (.string (mkS [])))).length; simp; omega
    · subst hΩ
      show A.sl true 1 ((ys.take (0 + f) ++ List.replicate (xs.length - f) (A.sc (.string (mkS [])))).take (f - 0)) = _
      rw [Nat.zero_add, Nat.sub_zero, List.take_append_of_le_length (by simp; omega), List.take_take, Nat.min_self, h4, hzs, hFn]
theorem roSS (l : List (List UInt8)) : roFree (.sl true 1 (l.map str)) = true := roFAll fun x hx => by obtain ⟨c, _, rfl⟩ := List.mem_map.1 hx; rfl
theorem seqT {Ω : Opq} (hΩ : Ω = std) {x y : List UInt8} (h : Ω.cmpS .eql x y = true) : x = y := by subst hΩ; exact of_decide_eq_true ((by simpa [cmpSS] using (show cmpSS .eql x y = true from h)))
theorem seqF {Ω : Opq} (hΩ : Ω = std) {x y : List UInt8} (h : Ω.cmpS .eql x y = false) : x ≠ y := by subst hΩ; exact fun e => by subst e; have h : cmpSS .eql x x = false := h; simp [cmpSS] at h
/-- The words of a line. -/
def wordsP (s : List UInt8) : List (List UInt8) := (cutAt 32 s).filter fun w => !decide (w = [])
/-- The lines of a text. -/
def linesP (s : List UInt8) : List (List UInt8) := if (cutAt 10 s).getD ((cutAt 10 s).length - 1) [] = [] then (cutAt 10 s).take ((cutAt 10 s).length - 1) else cutAt 10 s
theorem c_wordsOf1 (s : List UInt8) : PCtr PP n_impl_wordsOf_1 [str s] (boo (decide (s = []))) := by
  obtain ⟨Ω, hΩ⟩ : ∃ Ω, Ω = std := ⟨_, rfl⟩
  have htab := tab
  refine PCtr.walk tab hΩ fn_impl_wordsOf_1 rfl ?_
  generalize PP = P at *
  cbv
  refine .of (congrArg boo ?_)
  show Ω.cmpS .eql s [] = _
  rcases h : Ω.cmpS .eql s [] with _ | _
  · exact (decide_eq_false (seqF hΩ h)).symm
  · exact (decide_eq_true (seqT hΩ h)).symm
theorem c_wordsOf (s : List UInt8) (hs : s.length ≤ 1048575) : PCtr PP n_impl_wordsOf [str s] (.sl true 1 ((wordsP s).map str)) := by
  obtain ⟨Ω, hΩ⟩ : ∃ Ω, Ω = std := ⟨_, rfl⟩
  have hl := cutAt_len (c := 32) (s := s)
  have h1 := c_Split 32 s (by omega)
  have h2 := c_DeleteFuncS (cutAt 32 s) (by omega) n_impl_wordsOf_1 [] (fun x => decide (x = [])) ⟨fun S k => rfl, rfl, fun _ => rfl, fun x hx => c_wordsOf1 x⟩
  have r1 := roSS (cutAt 32 s)
  have r2 := roSS (wordsP s)
  have hz : (cutAt 32 s).length = ((cutAt 32 s).map str).length := (List.length_map _).symm
  unfold wordsP at *
  generalize ((cutAt 32 s).filter fun w => !decide (w = [])).map str = zs at *
  generalize (cutAt 32 s).map str = ys at *
  have lo : Ω.len ys = ys.length := by subst hΩ; rfl
  have htab := tab
  refine PCtr.walk tab hΩ fn_impl_wordsOf rfl ?_
  generalize PP = P at *
  cbv
  refine call_pure hΩ 3 h1 rfl (fits _) r1 rfl ?_
  cbv
  refine call_eat2 (row := ⟨1, ys, false⟩) hΩ 3 h2 rfl rfl lo rfl (fits _) r2 rfl ?_
  cbv
  exact ⟨⟨rfl, by subst hΩ; exact Nat.le_refl _⟩, .of (congrArg (A.sl true 1) (takeAll hΩ _))⟩
theorem lastI {Ω : Opq} (hΩ : Ω = std) {ys : List A} {k : Nat} (hl : ys.length = k + 1) (hb : k < 4611686018427387904) : Ω.ar .sub .i64 (Ω.int (Ω.len ys)) 1 = Ω.int k := by
  subst hΩ
  show IntKind.i64.wrap ((ys.length : Int) - 1) = (k : Int)
  rw [hl, wrap64 (by omega) (by omega)]; omega
theorem linesP_len {s : List UInt8} : (linesP s).length ≤ s.length + 1 := by
  have := cutAt_len (c := 10) (s := s)
  unfold linesP
  split
  · rw [List.length_take]; omega
  · exact this
theorem linesP_mem {s l : List UInt8} (h : l ∈ linesP s) : l.length ≤ s.length := by
  unfold linesP at h
  split at h
  · exact cutAt_mem (List.mem_of_mem_take h)
  · exact cutAt_mem h
theorem c_linesOf (s : List UInt8) (hs : s.length ≤ 1048575) : PCtr PP n_impl_linesOf [str s] (.sl false 1 ((linesP s).map str)) := by
  obtain ⟨Ω, hΩ⟩ : ∃ Ω, Ω = std := ⟨_, rfl⟩
  have hl := cutAt_len (c := 10) (s := s)
  have hn0 := cutAt_ne (c := 10) (s := s)
  have h1 := c_Split 10 s (by omega)
  have r1 := roSS (cutAt 10 s)
  have f1 : Fw.frz (.sl true 1 ((cutAt 10 s).map str)) = .sl false 1 ((cutAt 10 s).map str) := by rw [frz_sl, frzStr]
  obtain ⟨k, hk⟩ : ∃ k, (cutAt 10 s).length = k + 1 := ⟨(cutAt 10 s).length - 1, by have := List.length_pos_iff.2 hn0; omega⟩
  unfold linesP
  rw [hk, Nat.add_sub_cancel]
  generalize cutAt 10 s = ls at *
  obtain ⟨ys, hys⟩ : ∃ ys, ys = ls.map str := ⟨_, rfl⟩
  have hyl : ys.length = k + 1 := by rw [hys, List.length_map, hk]
  obtain ⟨z, hz⟩ := at_of (cs := ls) (i := k) (by omega)
  obtain ⟨zs, hzs⟩ : ∃ zs, zs = (if ls.getD k [] = [] then ls.take k else ls).map str := ⟨_, rfl⟩
  have hgd : ls.getD k [] = z := by rw [List.getD_eq_getElem?_getD, hz]; rfl
  rw [hgd] at hzs ⊢
  rw [← hzs]
  rw [← hys] at h1 r1 f1
  have hla := lastI hΩ hyl (by omega)
  have htab := tab
  refine PCtr.walk tab hΩ fn_impl_linesOf rfl ?_
  generalize PP = P at *
  cbv
  refine call_pf hΩ 3 h1 rfl (fits _) r1 f1 rfl ?_
  cbv
  refine ⟨⟨by show 0 ≤ Ω.ar .sub .i64 (Ω.int (Ω.len ys)) 1; rw [hla]; exact nnI hΩ⟩, str z, by show ys[(Ω.ar .sub .i64 (Ω.int (Ω.len ys)) 1).toNat]? = _; rw [hla, hys]; subst hΩ; show (ls.map str)[k]? = _; rw [List.getElem?_map, hz]; rfl, ?_⟩
  cbv
  refine br (fun h => ?_) (fun h => ?_) <;> cbv
  · have h := seqT hΩ h
    have hsg : Ω.seg 0 (Ω.nat (Ω.ar .sub .i64 (Ω.int (Ω.len ys)) 1)) ys = zs := by
      rw [hla, hzs, if_pos h, hys]; subst hΩ
      show ((ls.map str).take k).drop 0 = _
      rw [List.drop_zero, List.map_take]
    exact ⟨⟨trivial, by show 0 ≤ Ω.ar .sub .i64 (Ω.int (Ω.len ys)) 1; rw [hla]; exact nnI hΩ, Nat.zero_le _, by show Ω.nat (Ω.ar .sub .i64 (Ω.int (Ω.len ys)) 1) ≤ ys.length; rw [hla]; subst hΩ; show k ≤ ys.length; omega⟩, .of (congrArg (A.sl false 1) hsg)⟩
  · have h := seqF hΩ h
    rw [if_neg h, ← hys] at hzs
    exact .of (congrArg (A.sl false 1) hzs.symm)
end Go.Proofs.YtfmcncflooechaaGreatDoor

/- Walks: numbers read from text. Plain theorems. -/
set_option linter.unusedVariables false
set_option linter.unusedSimpArgs false
namespace Go.Proofs.YtfmcncflooechaaGreatDoor
open Go Go.Fw
set_option maxRecDepth 100000
/-- Digits as a number; -1: there is another byte. -/
def numL : List UInt8 → Int → Int
  | [], n => n
  | c :: cs, n => if 48 ≤ c.toNat ∧ c.toNat ≤ 57 then numL cs (10 * n + ((c.toNat : Int) - 48)) else -1
/-- The number of 1 to 3 digits; -1: none. -/
def numC (s : List UInt8) : Int := if s.length < 1 ∨ 3 < s.length then -1 else numL s 0
theorem numL_at {s : List UInt8} {i : Nat} {c : UInt8} {n : Int} (h : s[i]? = some c) : numL (s.drop i) n = if 48 ≤ c.toNat ∧ c.toNat ≤ 57 then numL (s.drop (i + 1)) (10 * n + ((c.toNat : Int) - 48)) else -1 := by
  obtain ⟨hi, rfl⟩ := List.getElem?_eq_some_iff.1 h
  rw [List.drop_eq_getElem_cons hi]; rfl
theorem numL_ge : ∀ {s : List UInt8} {n : Int}, 0 ≤ n → numL s n = -1 ∨ 0 ≤ numL s n
  | [], n, h => .inr h
  | c :: cs, n, h => by
    unfold numL
    split
    · rename_i hc; exact numL_ge (by omega)
    · exact .inl rfl
theorem numC_ge (s : List UInt8) : numC s = -1 ∨ 0 ≤ numC s := by
  unfold numC
  split
  · exact .inl rfl
  · exact numL_ge (Int.le_refl 0)
theorem stepN {Ω : Opq} (hΩ : Ω = std) {c : UInt8} {n : Int} (h1 : 48 ≤ c.toNat) (h2 : c.toNat ≤ 57) (h3 : 0 ≤ n) (h4 : n ≤ 1000) : Ω.ar .add .i64 (Ω.ar .mul .i64 10 n) (Ω.wrap .i64 (Ω.ar .sub .u8 (Ω.u8 c) 48)) = 10 * n + ((c.toNat : Int) - 48) := by
  subst hΩ
  show IntKind.i64.wrap (IntKind.i64.wrap (10 * n) + IntKind.i64.wrap (IntKind.u8.wrap ((c.toNat : Int) - 48))) = _
  have e : IntKind.u8.wrap ((c.toNat : Int) - 48) = (c.toNat : Int) - 48 := by
    show ((c.toNat : Int) - 48) % 256 = _
    omega
  rw [e, wrap64 (x := 10 * n) (by omega) (by omega), wrap64 (x := (c.toNat : Int) - 48) (by omega) (by omega), wrap64 (by omega) (by omega)]
theorem c_number (s : List UInt8) (hs : s.length ≤ 1048576) : PCtr PP n_impl_number [str s, i64 3] (i64 (numC s)) := by
  obtain ⟨Ω, hΩ⟩ : ∃ Ω, Ω = std := ⟨_, rfl⟩
  obtain ⟨r, hr⟩ : ∃ r, r = numC s := ⟨_, rfl⟩
  rw [← hr]
  unfold numC at hr
  obtain ⟨n, hn⟩ : ∃ n, n = s.length := ⟨_, rfl⟩
  have htab := tab
  refine PCtr.walk tab hΩ fn_impl_number rfl ?_
  generalize PP = P at *
  cbv
  have none : n < 1 ∨ 3 < n → r = -1 := fun h => by rw [hr, if_pos (by omega)]
  have go : ¬ (n < 1 ∨ 3 < n) → r = numL s 0 := fun h => by rw [hr, if_neg (by omega)]
  refine br (fun h => ?_) (fun h => ?_) <;> cbv
  · have h := seqT hΩ h
    exact .of (congrArg i64 (none (.inl (by rw [hn, h]; exact Nat.zero_lt_one))).symm)
  have h0 := seqF hΩ h
  have h0 : 0 < n := by rw [hn]; exact List.length_pos_iff.2 h0
  refine br (fun h => ?_) (fun h => ?_) <;> cbv
  · have h : 3 < n := by have h := gtZt hΩ (iteB hΩ h); subst hΩ; have h : (3 : Int) < (s.length : Int) := h; omega
    exact .of (congrArg i64 (none (.inr (by omega))).symm)
  have h3 : n ≤ 3 := by have h := gtZf hΩ (iteB hΩ h); subst hΩ; have h : (s.length : Int) ≤ 3 := h; omega
  have hrl := go (by omega)
  clear go none hr
  refine loopX htab hΩ (fun i : Nat × Int => ⟨[(0, str s), (5, i64 i.2), (16, i64 (Ω.int (Ω.lenS s))), (17, i64 (Ω.int i.1))], 40, []⟩)
    (fun i => i.1 ≤ n ∧ (0 ≤ i.2 ∧ i.2 ≤ 999 ∧ (i.1 ≤ 2 → i.2 ≤ 99) ∧ (i.1 ≤ 1 → i.2 ≤ 9) ∧ (i.1 ≤ 0 → i.2 ≤ 0)) ∧ r = numL (s.drop i.1) i.2) (fun i => n - i.1) (0, 0)
    ⟨Nat.zero_le _, ⟨Int.le_refl _, by decide, fun _ => by decide, fun _ => by decide, fun _ => Int.le_refl _⟩, hrl⟩ (Sbs.mk rfl rfl ⟨rfl, rfl, rfl, zeroI hΩ, trivial⟩) ?_
  rintro ⟨i, v⟩ ⟨hi, ⟨v0, v1, v2, v3, v4⟩, hv⟩
  dsimp only at hi v0 v1 v2 v3 v4 hv ⊢
  cbv
  refine br (fun h => ?_) (fun h => ?_) <;> cbv
  · have h : i < n := by have h := ltZt hΩ h; subst hΩ; have h : (i : Int) < (s.length : Int) := h; omega
    obtain ⟨c, hc⟩ := at_of (cs := s) (by omega : i < _)
    have hci : s[(Ω.int i).toNat]? = some c := by subst hΩ; exact hc
    rw [numL_at hc] at hv
    have hst := stepN hΩ (c := c) (n := v)
    refine ⟨⟨nnI hΩ⟩, c, hci, ?_⟩
    cbv
    refine br (fun k => ?_) (fun k => ?_)
    · have k : (c.toNat : Int) < 48 := by have k := ltZt hΩ k; subst hΩ; exact k
      rw [if_neg (by omega)] at hv
      cbv
      exact .of (congrArg i64 hv.symm)
    have k1 : (48 : Int) ≤ c.toNat := by have k := ltZf hΩ k; subst hΩ; exact k
    have k1 : 48 ≤ c.toNat := by omega
    cbv
    refine ⟨⟨nnI hΩ⟩, c, hci, ?_⟩
    cbv
    refine br (fun k => ?_) (fun k => ?_)
    · have k : (57 : Int) < c.toNat := by have k := gtZt hΩ (iteB hΩ k); subst hΩ; exact k
      rw [if_neg (by omega)] at hv
      cbv
      exact .of (congrArg i64 hv.symm)
    have k2 : (c.toNat : Int) ≤ 57 := by have k := gtZf hΩ (iteB hΩ k); subst hΩ; exact k
    have k2 : c.toNat ≤ 57 := by omega
    rw [if_pos (by omega)] at hv
    cbv
    refine ⟨⟨nnI hΩ⟩, c, hci, ?_⟩
    cbv
    obtain ⟨d, hd⟩ : ∃ d : Int, d = c.toNat - 48 := ⟨_, rfl⟩
    rw [← hd] at hv hst
    exact ⟨(i + 1, 10 * v + d), ⟨by show i + 1 ≤ n; omega, by show 0 ≤ 10 * v + d ∧ 10 * v + d ≤ 999 ∧ (i + 1 ≤ 2 → 10 * v + d ≤ 99) ∧ (i + 1 ≤ 1 → 10 * v + d ≤ 9) ∧ (i + 1 ≤ 0 → 10 * v + d ≤ 0); omega, hv⟩, by show n - (i + 1) < n - i; omega,
      Sbs.mk rfl rfl ⟨rfl, congrArg i64 (hst (by omega) (by omega) (by omega) (by omega)), rfl, incI hΩ (by omega), trivial⟩⟩
  · have h : n ≤ i := by have h := ltZf hΩ h; subst hΩ; have h : (s.length : Int) ≤ (i : Int) := h; omega
    rw [List.drop_of_length_le (by omega)] at hv
    exact .of (congrArg i64 hv.symm)
end Go.Proofs.YtfmcncflooechaaGreatDoor

/- Walks: versions read from text. Plain theorems. -/
set_option linter.unusedVariables false
set_option linter.unusedSimpArgs false
namespace Go.Proofs.YtfmcncflooechaaGreatDoor
open Go Go.Fw
set_option maxRecDepth 100000
def numAt (ps : List (List UInt8)) (k : Nat) : Int := match ps[k]? with
  | some p => numC p
  | none => 0
def verOK (ps : List (List UInt8)) : Bool := decide (ps.length ≤ 3) && ps.all fun p => decide (0 ≤ numC p)
/-- A version read: code and version. -/
def verP (s : List UInt8) : Int × Ver := if verOK (cutAt 46 s) then (0, ⟨numAt (cutAt 46 s) 0, numAt (cutAt 46 s) 1, numAt (cutAt 46 s) 2⟩) else (5, Ver.zero)
def verA (x : Int × Ver) : A := .agg [i64 x.1, i64 x.2.a, i64 x.2.b, i64 x.2.c]
def partAt (ps : List (List UInt8)) (k i : Nat) : Int := if k < i then numAt ps k else 0
theorem partAt_new {ps : List (List UInt8)} {i : Nat} {p : List UInt8} (h : ps[i]? = some p) : partAt ps i (i + 1) = numC p := by
  unfold partAt numAt; rw [if_pos (by omega), h]
theorem partAt_old {ps : List (List UInt8)} {k i : Nat} (h : k ≠ i) : partAt ps k (i + 1) = partAt ps k i := by
  unfold partAt
  by_cases hk : k < i
  · rw [if_pos hk, if_pos (by omega)]
  · rw [if_neg hk, if_neg (by omega)]
theorem partAt_end {ps : List (List UInt8)} {k : Nat} : partAt ps k ps.length = numAt ps k := by
  unfold partAt
  split
  · rfl
  · unfold numAt; rw [List.getElem?_eq_none (by omega)]
theorem all_at {ps : List (List UInt8)} {i : Nat} {p : List UInt8} {q : List UInt8 → Bool} (h : ps[i]? = some p) : (ps.drop i).all q = (q p && (ps.drop (i + 1)).all q) := by
  obtain ⟨hi, rfl⟩ := List.getElem?_eq_some_iff.1 h
  rw [List.drop_eq_getElem_cons hi]; rfl
theorem c_implParseVersion (s : List UInt8) (hs : s.length ≤ 1048575) : PCtr PP n_impl_ParseVersion [str s] (verA (verP s)) := by
  obtain ⟨Ω, hΩ⟩ : ∃ Ω, Ω = std := ⟨_, rfl⟩
  have hl := cutAt_len (c := 46) (s := s)
  have hme := fun l => cutAt_mem (c := 46) (s := s) (l := l)
  have h1 := c_Split 46 s (by omega)
  have r1 := roSS (cutAt 46 s)
  have f1 : Fw.frz (.sl true 1 ((cutAt 46 s).map str)) = .sl false 1 ((cutAt 46 s).map str) := by rw [frz_sl, frzStr]
  unfold verP
  generalize cutAt 46 s = ps at *
  obtain ⟨ys, hys⟩ : ∃ ys, ys = ps.map str := ⟨_, rfl⟩
  have hyl : ys.length = ps.length := by rw [hys, List.length_map]
  rw [← hys] at h1 r1 f1
  obtain ⟨n, hn⟩ : ∃ n, n = ps.length := ⟨_, rfl⟩
  have hnum := c_number
  obtain ⟨R, hR⟩ : ∃ R, R = verA (if verOK ps then (0, ⟨numAt ps 0, numAt ps 1, numAt ps 2⟩) else (5, Ver.zero)) := ⟨_, rfl⟩
  rw [← hR]
  have bad : verOK ps = false → A.agg [i64 5, i64 0, i64 0, i64 0] = R := fun h => by rw [hR, h]; rfl
  have good : verOK ps = true → A.agg [i64 0, i64 (numAt ps 0), i64 (numAt ps 1), i64 (numAt ps 2)] = R := fun h => by rw [hR, h]; rfl
  clear hR
  have hn3 : 3 < n → verOK ps = false := fun h => by unfold verOK; rw [decide_eq_false (by omega)]; rfl
  have hok : n ≤ 3 → verOK ps = (ps.drop 0).all fun p => decide (0 ≤ numC p) := fun h => by unfold verOK; rw [decide_eq_true (by omega)]; rfl
  generalize verOK ps = b at *
  have pnew := fun i p => partAt_new (ps := ps) (i := i) (p := p)
  have pold := fun k i => partAt_old (ps := ps) (k := k) (i := i)
  have pend := fun k => partAt_end (ps := ps) (k := k)
  have p0 : ∀ k, partAt ps k 0 = 0 := fun k => rfl
  generalize partAt ps = g at *
  have htab := tab
  refine PCtr.walk tab hΩ fn_impl_ParseVersion rfl ?_
  generalize PP = P at *
  cbv
  refine call_pf hΩ 3 h1 rfl (fits _) r1 f1 rfl ?_
  cbv
  refine br (fun h => ?_) (fun h => ?_) <;> cbv
  · have h : 3 < n := by have h := gtZt hΩ h; subst hΩ; have h : (3 : Int) < (ys.length : Int) := h; omega
    exact .of (bad (hn3 h))
  have h3 : n ≤ 3 := by have h := gtZf hΩ h; subst hΩ; have h : (ys.length : Int) ≤ 3 := h; omega
  have hok := hok h3
  clear hn3
  refine loopX htab hΩ (fun i : Nat => ⟨[(4, .pt 1 0 0), (2, .pt 0 0 0), (14, .sl false 1 ys), (15, i64 (Ω.int (Ω.len ys))), (16, i64 (i : Int))], 39,
    [some ⟨4, [.agg [i64 0, i64 0, i64 0, i64 0]], true⟩, some ⟨3, [.agg [i64 (g 0 i), i64 (g 1 i), i64 (g 2 i)]], true⟩]⟩) (fun i => i ≤ n ∧ b = (ps.drop i).all fun p => decide (0 ≤ numC p)) (fun i => n - i) 0 ⟨Nat.zero_le _, hok⟩
    (Sbs.mk rfl (by dsimp only; rw [p0, p0, p0]; rfl) ⟨rfl, rfl, rfl, rfl, rfl, trivial⟩) (fun i hi => ?_)
  obtain ⟨hi, hb⟩ := hi
  cbv
  refine br (fun h => ?_) (fun h => ?_) <;> cbv
  · have h : i < n := by have h := ltZt hΩ h; subst hΩ; have h : (i : Int) < (ys.length : Int) := h; omega
    obtain ⟨p, hp⟩ := at_of (cs := ps) (by omega : i < _)
    rw [all_at hp] at hb
    have hnp := hnum p (Nat.le_trans (hme p (List.mem_of_getElem? hp)) (by omega))
    have pn := pnew i p hp
    have hge := numC_ge p
    have hyp : ys[((i : Nat) : Int).toNat]? = some (str p) := by rw [hys, Int.toNat_natCast, List.getElem?_map, hp]; rfl
    refine ⟨⟨Int.natCast_nonneg i⟩, str p, hyp, ?_⟩
    generalize numC p = v at *
    cbv
    refine call_pure hΩ 3 hnp rfl (fits _) rfl rfl ?_
    cbv
    rcases (by omega : i = 0 ∨ i = 1 ∨ i = 2) with rfl | rfl | rfl
    · cbv
      refine ⟨⟨by decide, by decide⟩, ⟨by decide, by decide⟩, ?_⟩
      refine br (fun k => ?_) (fun k => ?_) <;> cbv
      · have k := ltZt hΩ k
        rw [decide_eq_false (by omega)] at hb
        exact .of (bad hb)
      · have k := ltZf hΩ k
        rw [decide_eq_true k, Bool.true_and] at hb
        exact ⟨1, ⟨by omega, hb⟩, by omega, Sbs.mk rfl (congrArg (fun z => [some (Row.mk 4 [A.agg [i64 0, i64 0, i64 0, i64 0]] true), some (Row.mk 3 [A.agg z] true)]) (show [i64 v, i64 (g 1 0), i64 (g 2 0)] = [i64 (g 0 1), i64 (g 1 1), i64 (g 2 1)] by rw [show g 0 1 = v from pn, show g 1 1 = g 1 0 from pold 1 0 (by decide), show g 2 1 = g 2 0 from pold 2 0 (by decide)])) ⟨rfl, rfl, rfl, rfl, congrArg i64 (by subst hΩ; rfl), trivial⟩⟩
    · cbv
      refine ⟨⟨by decide, by decide⟩, ⟨by decide, by decide⟩, ?_⟩
      refine br (fun k => ?_) (fun k => ?_) <;> cbv
      · have k := ltZt hΩ k
        rw [decide_eq_false (by omega)] at hb
        exact .of (bad hb)
      · have k := ltZf hΩ k
        rw [decide_eq_true k, Bool.true_and] at hb
        exact ⟨2, ⟨by omega, hb⟩, by omega, Sbs.mk rfl (congrArg (fun z => [some (Row.mk 4 [A.agg [i64 0, i64 0, i64 0, i64 0]] true), some (Row.mk 3 [A.agg z] true)]) (show [i64 (g 0 1), i64 v, i64 (g 2 1)] = [i64 (g 0 2), i64 (g 1 2), i64 (g 2 2)] by rw [show g 1 2 = v from pn, show g 0 2 = g 0 1 from pold 0 1 (by decide), show g 2 2 = g 2 1 from pold 2 1 (by decide)])) ⟨rfl, rfl, rfl, rfl, congrArg i64 (by subst hΩ; rfl), trivial⟩⟩
    · cbv
      refine ⟨⟨by decide, by decide⟩, ⟨by decide, by decide⟩, ?_⟩
      refine br (fun k => ?_) (fun k => ?_) <;> cbv
      · have k := ltZt hΩ k
        rw [decide_eq_false (by omega)] at hb
        exact .of (bad hb)
      · have k := ltZf hΩ k
        rw [decide_eq_true k, Bool.true_and] at hb
        exact ⟨3, ⟨by omega, hb⟩, by omega, Sbs.mk rfl (congrArg (fun z => [some (Row.mk 4 [A.agg [i64 0, i64 0, i64 0, i64 0]] true), some (Row.mk 3 [A.agg z] true)]) (show [i64 (g 0 2), i64 (g 1 2), i64 v] = [i64 (g 0 3), i64 (g 1 3), i64 (g 2 3)] by rw [show g 2 3 = v from pn, show g 0 3 = g 0 2 from pold 0 2 (by decide), show g 1 3 = g 1 2 from pold 1 2 (by decide)])) ⟨rfl, rfl, rfl, rfl, congrArg i64 (by subst hΩ; rfl), trivial⟩⟩
  · have h : n ≤ i := by have h := ltZf hΩ h; subst hΩ; have h : (ys.length : Int) ≤ (i : Int) := h; omega
    have hin : i = ps.length := by omega
    rw [List.drop_of_length_le (by omega)] at hb
    have hb : b = true := hb
    have e : A.agg [i64 0, i64 (g 0 i), i64 (g 1 i), i64 (g 2 i)] = R := by rw [hin, pend, pend, pend]; exact good hb
    refine ⟨⟨by decide, by decide⟩, ⟨by decide, by decide⟩, ⟨by decide, by decide⟩, ?_⟩
    cbv
    exact .of e
end Go.Proofs.YtfmcncflooechaaGreatDoor

/- Walks: changes read from words. Plain theorems. -/
set_option linter.unusedVariables false
set_option linter.unusedSimpArgs false
namespace Go.Proofs.YtfmcncflooechaaGreatDoor
open Go Go.Fw
set_option maxRecDepth 100000
/-- A change read from words. -/
def readC (ws : List (List UInt8)) : Option Chg :=
  if ws.length < 3 then none else if nameF (ws.getD 1 []) ≠ 0 then none else if (verP (ws.getD 2 [])).1 ≠ 0 then none
  else if ws.getD 0 [] = [43] ∧ ws.length = 3 then some ⟨1, ws.getD 1 [], Ver.zero, (verP (ws.getD 2 [])).2⟩
  else if ws.getD 0 [] = [45] ∧ ws.length = 3 then some ⟨2, ws.getD 1 [], (verP (ws.getD 2 [])).2, Ver.zero⟩
  else if ws.getD 0 [] = [42] ∧ ws.length = 4 then (if (verP (ws.getD 3 [])).1 = 0 then some ⟨3, ws.getD 1 [], (verP (ws.getD 2 [])).2, (verP (ws.getD 3 [])).2⟩ else none)
  else none
/-- The answer of a reader: what is read, and whether it is. -/
def Reads (o : Option Chg) (x : A) : Prop := ∃ c : Chg, x = .tup [c.enc, boo o.isSome] ∧ ∀ d, o = some d → c = d
theorem reads_none {o : Option Chg} {c : Chg} (h : o = none) : Reads o (.tup [c.enc, boo false]) := ⟨c, by rw [h]; rfl, fun d hd => by rw [h] at hd; cases hd⟩
theorem reads_some {o : Option Chg} {c : Chg} (h : o = some c) : Reads o (.tup [c.enc, boo true]) := ⟨c, by rw [h]; rfl, fun d hd => by rw [h] at hd; cases hd; rfl⟩
theorem c_readChange (ws : List (List UInt8)) (hw : ws.length ≤ 1048576) (hs : ∀ w ∈ ws, w.length ≤ 1048575) : RCtr PP n_impl_readChange [.sl false 1 (ws.map str)] (Reads (readC ws)) := by
  obtain ⟨Ω, hΩ⟩ : ∃ Ω, Ω = std := ⟨_, rfl⟩
  obtain ⟨xs, hxs⟩ : ∃ xs, xs = ws.map str := ⟨_, rfl⟩
  have hxl : xs.length = ws.length := by rw [hxs, List.length_map]
  have hlx : Ω.len xs = xs.length := by subst hΩ; rfl
  have hat : ∀ i, i < ws.length → xs[i]? = some (str (ws.getD i [])) := fun i hi => by rw [hxs, List.getElem?_map, List.getElem?_eq_getElem hi, List.getD_eq_getElem?_getD, List.getElem?_eq_getElem hi]; rfl
  have hsm : ∀ i, (ws.getD i []).length ≤ 1048575 := fun i => by
    rw [List.getD_eq_getElem?_getD]
    cases h : ws[i]? with
    | none => simp
    | some w => exact hs w (List.mem_of_getElem? h)
  have hnm := c_implNameFault (ws.getD 1 [])
  have hv2 := c_implParseVersion (ws.getD 2 []) (hsm 2)
  have hv3 := c_implParseVersion (ws.getD 3 []) (hsm 3)
  obtain ⟨O, hO⟩ : ∃ O, O = readC ws := ⟨_, rfl⟩
  rw [← hO, ← hxs]
  unfold readC at hO
  obtain ⟨n, hn⟩ : ∃ n, n = ws.length := ⟨_, rfl⟩
  rw [← hn] at hO hxl hat
  have h0 := hat 0
  have h1 := hat 1
  have h2 := hat 2
  have h3 := hat 3
  clear hat hsm hs
  generalize ws.getD 0 [] = w0 at *
  generalize ws.getD 1 [] = w1 at *
  generalize ws.getD 2 [] = w2 at *
  generalize ws.getD 3 [] = w3 at *
  generalize nameF w1 = N at *
  obtain ⟨⟨c2, v2⟩, e2⟩ : ∃ z, z = verP w2 := ⟨_, rfl⟩
  obtain ⟨⟨c3, v3⟩, e3⟩ : ∃ z, z = verP w3 := ⟨_, rfl⟩
  rw [← e2] at hO hv2
  rw [← e3] at hO hv3
  dsimp only at hO
  unfold verA at hv2 hv3
  dsimp only at hv2 hv3
  clear e2 e3
  have Z : A.agg [i64 0, str [], i64 0, i64 0, i64 0, i64 0, i64 0, i64 0] = Chg.enc ⟨0, [], Ver.zero, Ver.zero⟩ := rfl
  have no : O = none → ∃ x, Reads O x ∧ FitX (.tup [.agg [i64 0, str [], i64 0, i64 0, i64 0, i64 0, i64 0, i64 0], boo false]) x := fun h => ⟨_, reads_none (c := ⟨0, [], Ver.zero, Ver.zero⟩) h, .of rfl⟩
  have hmo : PP.follows .mixedOrders = true := by kernel_rfl
  have htab := tab
  refine RCtr.walk tab hΩ fn_impl_readChange rfl ?_
  generalize PP = P at *
  cbv
  refine br (fun h => ?_) (fun h => ?_) <;> cbv
  · have h : n < 3 := by have h := ltZt hΩ h; subst hΩ; have h : (xs.length : Int) < 3 := h; omega
    exact no (by rw [hO, if_pos h])
  have hn3 : ¬ n < 3 := by have h := ltZf hΩ h; subst hΩ; have h : (3 : Int) ≤ (xs.length : Int) := h; omega
  rw [if_neg hn3] at hO
  replace h0 := h0 (by omega)
  replace h1 := h1 (by omega)
  replace h2 := h2 (by omega)
  refine ⟨⟨by decide⟩, _, h1, ?_⟩
  cbv
  refine call_pure hΩ 3 hnm rfl (fits _) rfl rfl ?_
  cbv
  refine br (fun h => ?_) (fun h => ?_) <;> cbv
  · have h := neZt hΩ (iteB hΩ h)
    exact no (by rw [hO, if_pos h])
  have h := neZf hΩ (iteB hΩ h)
  rw [if_neg (fun e => e h)] at hO
  refine ⟨⟨by decide⟩, _, h2, ?_⟩
  cbv
  refine call_pure hΩ 3 hv2 rfl (fits _) rfl rfl ?_
  cbv
  refine ⟨⟨by decide⟩, _, h1, ?_⟩
  cbv
  refine br (fun h => ?_) (fun h => ?_) <;> cbv
  · have h := neZt hΩ h
    exact no (by rw [hO, if_pos h])
  have h := neZf hΩ h
  rw [if_neg (fun e => e h)] at hO
  refine ⟨⟨by decide⟩, _, h0, ?_⟩
  have hP : w0 = [43] → n = 3 → O = some ⟨1, w1, Ver.zero, v2⟩ := fun a b => by rw [hO, if_pos ⟨a, b⟩]
  have hM : w0 = [45] → n = 3 → O = some ⟨2, w1, v2, Ver.zero⟩ := fun a b => by rw [hO, if_neg (fun e => absurd (a.symm.trans e.1) (by decide)), if_pos ⟨a, b⟩]
  have hS : w0 = [42] → n = 4 → O = if c3 = 0 then some ⟨3, w1, v2, v3⟩ else none := fun a b => by rw [hO, if_neg (fun e => absurd (a.symm.trans e.1) (by decide)), if_neg (fun e => absurd (a.symm.trans e.1) (by decide)), if_pos ⟨a, b⟩]
  have hNo : (w0 = [43] → ¬ n = 3) → (w0 = [45] → ¬ n = 3) → (w0 = [42] → ¬ n = 4) → O = none := fun a b c => by rw [hO, if_neg (fun e => a e.1 e.2), if_neg (fun e => b e.1 e.2), if_neg (fun e => c e.1 e.2)]
  clear hO
  have l3T : ∀ {q : Bool}, Ω.ite true (Ω.cmp .eql (Ω.int (Ω.len xs)) 3) q = true → n = 3 := fun h => by have h := eqZt hΩ (iteA hΩ h); subst hΩ; have h : (xs.length : Int) = 3 := h; omega
  have l3F : ∀ {q : Bool}, Ω.ite true (Ω.cmp .eql (Ω.int (Ω.len xs)) 3) q = false → ¬ n = 3 := fun h => by have h := eqZf hΩ (iteA hΩ h); subst hΩ; have h : (xs.length : Int) ≠ 3 := h; omega
  have l4T : ∀ {q : Bool}, Ω.ite true (Ω.cmp .eql (Ω.int (Ω.len xs)) 4) q = true → n = 4 := fun h => by have h := eqZt hΩ (iteA hΩ h); subst hΩ; have h : (xs.length : Int) = 4 := h; omega
  have l4F : ∀ {q : Bool}, Ω.ite true (Ω.cmp .eql (Ω.int (Ω.len xs)) 4) q = false → ¬ n = 4 := fun h => by have h := eqZf hΩ (iteA hΩ h); subst hΩ; have h : (xs.length : Int) ≠ 4 := h; omega
  cbv
  repeat' (first
    | (refine br (fun h => ?_) (fun h => ?_) <;> (first | replace h := seqT hΩ h | replace h := seqF hΩ h | replace h := l3T h | replace h := l3F h | replace h := l4T h | replace h := l4F h) <;> cbv)
    | (refine ⟨⟨by decide⟩, _, h0, ?_⟩; cbv)
    | exact no (hNo (by first | (intro _; assumption) | (intro e; exact absurd e (by assumption))) (by first | (intro _; assumption) | (intro e; exact absurd e (by assumption))) (by first | (intro _; assumption) | (intro e; exact absurd e (by assumption)))))
  all_goals first
    | (have hk := hP ‹w0 = [43]› ‹n = 3›
       refine ⟨VC.sub (VC_lord htab hΩ hmo [0, 1, 2] (.step 3 (.step 4 (.step 5 .fin))) [] [] (by kernel_rfl) ?_) ((Sbs.unlk (r := 1) rfl rfl).trans (Sbs.thaw0 (r := 1) rfl rfl rfl))⟩
       cbv
       intro vs
       cbv
       exact ⟨_, reads_some hk, .of rfl⟩)
    | (have hk := hM ‹w0 = [45]› ‹n = 3›
       refine ⟨VC.sub (VC_lord htab hΩ hmo [0, 1, 2] (.step 3 (.step 4 (.step 5 .fin))) [] [] (by kernel_rfl) ?_) ((Sbs.unlk (r := 1) rfl rfl).trans (Sbs.thaw0 (r := 1) rfl rfl rfl))⟩
       cbv
       intro vs
       cbv
       exact ⟨_, reads_some hk, .of rfl⟩)
    | (have hk := hS ‹w0 = [42]› ‹n = 4›
       have hn4 : 3 < n := by omega
       refine ⟨⟨by decide⟩, _, h3 hn4, ?_⟩
       cbv
       refine call_pure hΩ 3 hv3 rfl (fits _) rfl rfl ?_
       cbv
       refine ⟨VC.sub (VC_lord htab hΩ hmo [0, 1, 2, 3, 4] (.step 5 (.step 6 (.step 7 (.step 8 (.step 9 .fin))))) [] [] (by kernel_rfl) ?_) (((Sbs.unlk (r := 1) rfl rfl).trans (Sbs.thaw0 (r := 1) rfl rfl rfl)).trans ((Sbs.unlk (r := 3) rfl rfl).trans (Sbs.thaw0 (r := 3) rfl rfl rfl)))⟩
       cbv
       intro vs
       cbv
       refine ⟨VC.sub (VC_lord htab hΩ hmo [0, 1, 2, 3] (.step 4 (.step 5 .fin)) [] [] (by kernel_rfl) ?_) ((Sbs.unlk (r := 2) rfl rfl).trans (Sbs.thaw0 (r := 2) rfl rfl rfl))⟩
       cbv
       intro vs
       cbv
       have hc3 : Ω.cmp .eql c3 0 = O.isSome := by
         by_cases q : c3 = 0
         · rw [hk, if_pos q, q]; subst hΩ; rfl
         · rw [hk, if_neg q]; subst hΩ; exact decide_eq_false q
       exact ⟨_, ⟨⟨3, w1, v2, v3⟩, congrArg (fun b => A.tup [Chg.enc ⟨3, w1, v2, v3⟩, boo b]) hc3, fun d hd => by
         by_cases q : c3 = 0
         · rw [hk, if_pos q] at hd; exact Option.some.inj hd
         · rw [hk, if_neg q] at hd; cases hd⟩, .of rfl⟩)
end Go.Proofs.YtfmcncflooechaaGreatDoor

/- Walks: lists of changes read from text. Plain theorems. -/
set_option linter.unusedVariables false
set_option linter.unusedSimpArgs false
namespace Go.Proofs.YtfmcncflooechaaGreatDoor
open Go Go.Fw
set_option maxRecDepth 100000
/-- Changes read line by line: code, place, changes. -/
def parseL : List (List UInt8) → Nat → List Chg → Int × Int × List Chg
  | [], _, acc => (0, 0, acc)
  | l :: ls, i, acc => match readC (wordsP l) with
    | some c => parseL ls (i + 1) (acc ++ [c])
    | none => (5, (i : Int), [])
def parseC (s : List UInt8) : Int × Int × List Chg := if 4000 < s.length then (2, 0, []) else parseL (linesP s) 0 []
def chgsA (x : Int × Int × List Chg) : A := .agg [i64 x.1, i64 x.2.1, .sl true 8 (x.2.2.map Chg.enc)]
theorem parseL_at {ls : List (List UInt8)} {i : Nat} {l : List UInt8} {acc : List Chg} (h : ls[i]? = some l) : parseL (ls.drop i) i acc = match readC (wordsP l) with
    | some c => parseL (ls.drop (i + 1)) (i + 1) (acc ++ [c])
    | none => (5, (i : Int), []) := by
  obtain ⟨hi, rfl⟩ := List.getElem?_eq_some_iff.1 h
  rw [List.drop_eq_getElem_cons hi]; rfl
theorem fit_nil3 (k a : Int) : FitX (.agg [i64 k, i64 a, .nil]) (.agg [i64 k, i64 a, .sl true 8 []]) := ⟨2, by simp [fitA, fitA.fitL, i64]⟩
theorem words_len {s : List UInt8} : (wordsP s).length ≤ s.length + 1 := by
  unfold wordsP
  exact Nat.le_trans (List.length_filter_le _ _) cutAt_len
theorem words_mem {s w : List UInt8} (h : w ∈ wordsP s) : w.length ≤ s.length := by
  unfold wordsP at h
  exact cutAt_mem (List.mem_filter.1 h).1
theorem c_implParseChanges (s : List UInt8) (hs : s.length ≤ 1048576) : PCtr PP n_impl_ParseChanges [str s] (chgsA (parseC s)) := by
  obtain ⟨Ω, hΩ⟩ : ∃ Ω, Ω = std := ⟨_, rfl⟩
  obtain ⟨F, hF⟩ : ∃ F : List Chg → List A, F = fun l => l.map Chg.enc := ⟨_, rfl⟩
  have hFm : ∀ t : List Chg, t.map Chg.enc = F t := fun t => by rw [hF]
  have hlen : ∀ t, (F t).length = t.length := fun t => by rw [hF, List.length_map]
  have hap : ∀ t x, Ω.app (Ω.take (Ω.len (F t)) (F t)) [x.enc] = F (t ++ [x]) := fun t x => by rw [takeAll hΩ, ← hFm, ← hFm, List.map_append]; subst hΩ; rfl
  have hpl : ∀ t (x : Chg), Ω.plus (Ω.len (F t)) (Ω.len [x.enc]) = Ω.len (F (t ++ [x])) := fun t x => by rw [← hap, takeAll hΩ]; subst hΩ; exact (List.length_append).symm
  have hF0 : F [] = [] := by rw [hF]; rfl
  obtain ⟨R, hR⟩ : ∃ R, R = chgsA (parseC s) := ⟨_, rfl⟩
  rw [← hR]
  unfold chgsA parseC at hR
  have many : 4000 < s.length → R = .agg [i64 2, i64 0, .sl true 8 []] := fun h => by rw [hR, if_pos h]; rfl
  have go : ¬ 4000 < s.length → R = chgsA (parseL (linesP s) 0 []) := fun h => by rw [hR, if_neg h]; rfl
  clear hR
  have hln := linesP_len (s := s)
  have hmem := fun l => linesP_mem (s := s) (l := l)
  have hl : s.length ≤ 4000 → PCtr PP n_impl_linesOf [str s] (.sl false 1 ((linesP s).map str)) := fun h => c_linesOf s (by omega)
  generalize linesP s = ls at *
  obtain ⟨n, hn⟩ : ∃ n, n = ls.length := ⟨_, rfl⟩
  obtain ⟨ys, hys⟩ : ∃ ys, ys = ls.map str := ⟨_, rfl⟩
  have hyl : ys.length = ls.length := by rw [hys, List.length_map]
  rw [← hys] at hl
  have hw := c_wordsOf
  have hrd := c_readChange
  have htab := tab
  refine PCtr.walk tab hΩ fn_impl_ParseChanges rfl ?_
  generalize PP = P at *
  cbv
  refine br (fun h => ?_) (fun h => ?_) <;> cbv
  · have h : 4000 < s.length := by have h := gtZt hΩ h; subst hΩ; have h : (4000 : Int) < (s.length : Int) := h; omega
    rw [many h]
    exact fit_nil3 2 0
  have h4 : s.length ≤ 4000 := by have h := gtZf hΩ h; subst hΩ; have h : (s.length : Int) ≤ 4000 := h; omega
  have hRg := go (by omega)
  replace hl := hl h4
  clear go many
  refine call_share hΩ 3 hl rfl (fits _) rfl ?_
  cbv
  refine loopX htab hΩ (fun i : Nat × List Chg => ⟨[(2, .pt 0 0 0), (3, .vw 1 0 (Ω.len (F i.2))), (14, .sl false 1 ys), (15, i64 (Ω.int (Ω.len ys))), (16, i64 (Ω.int i.1))], 38,
    [some ⟨3, [.agg [i64 0, i64 0, .nil]], true⟩, some ⟨8, F i.2, false⟩]⟩) (fun i => i.1 ≤ n ∧ i.2.length ≤ i.1 ∧ R = chgsA (parseL (ls.drop i.1) i.1 i.2)) (fun i => n - i.1) (0, []) ⟨Nat.zero_le _, Nat.le_refl _, hRg⟩
    (Sbs.mk rfl (by dsimp only; rw [hF0]; rfl) ⟨rfl, by dsimp only; rw [hF0]; subst hΩ; rfl, rfl, rfl, zeroI hΩ, trivial⟩) ?_
  rintro ⟨i, o⟩ ⟨hi, ho, hRi⟩
  dsimp only at hi ho hRi ⊢
  have hol := hlen o
  have hlo : Ω.len (F o) = (F o).length := by subst hΩ; rfl
  have hle : Ω.len (F o) ≤ (F o).length := by rw [hlo]; exact Nat.le_refl _
  have htk : Ω.take (Ω.len (F o)) (F o) = F o := takeAll hΩ _
  cbv
  refine br (fun h => ?_) (fun h => ?_) <;> cbv
  · replace h := ltI hΩ h
    obtain ⟨l, hl⟩ := at_of (cs := ls) (by omega : i < _)
    rw [parseL_at hl] at hRi
    have hll := hmem l (List.mem_of_getElem? hl)
    have hw1 := hw l (by omega)
    have hwl := words_len (s := l)
    have hr1 := hrd (wordsP l) (by omega) (fun w hw => by have := words_mem hw; omega)
    have rw1 := roSS (wordsP l)
    have fw1 := frzStr (wordsP l)
    have lw : Ω.len ((wordsP l).map str) = ((wordsP l).map str).length := by subst hΩ; rfl
    generalize wordsP l = wl at *
    obtain ⟨O, hO⟩ : ∃ O, O = readC wl := ⟨_, rfl⟩
    rw [← hO] at hr1 hRi
    generalize wl.map str = ws at *
    refine ⟨⟨nnI hΩ⟩, _, rdI hΩ hys hl, ?_⟩
    cbv
    refine call_pure hΩ 3 hw1 rfl (fits _) rw1 rfl ?_
    cbv
    refine call_rp hΩ 3 hr1 (mapO1 (ro_vw rfl lw fw1)) (fits _) fun x hx => ?_
    obtain ⟨c, rfl, hc⟩ := hx
    refine ⟨rfl, rfl, ?_⟩
    have hap0 := hap o c
    have hpl0 := hpl o c
    clear hO hr1
    cases O with
    | none =>
      cbv
      refine br (fun h => ?_) (fun h => absurd (notF' hΩ h) (by decide)) <;> cbv
      have e : FitX (.agg [i64 5, i64 (Ω.int i), .nil]) R := by
        rw [hRi]; subst hΩ; exact fit_nil3 5 i
      exact e
    | some d =>
      obtain rfl := hc d rfl
      cbv
      refine br (fun h => absurd (notT' hΩ h) (by decide)) (fun h => ?_) <;> cbv
      exact ⟨⟨rfl, okAll rfl, by show (Ω.len (F o) + 1) * 72 ≤ 140737488355328; omega, by show Ω.len (F o) + 1 ≤ 9223372036854775807; omega⟩,
        (i + 1, o ++ [c]), ⟨by show i + 1 ≤ n; omega, by simp; omega, hRi⟩, by show n - (i + 1) < n - i; omega, (Sbs.cut 2 rfl).trans (Sbs.mk rfl (by show [some (Row.mk 3 [A.agg [i64 0, i64 0, .nil]] true), some (Row.mk 8 (Ω.app (Ω.take (Ω.len (F o)) (F o)) [c.enc]) false)] = _; rw [hap0]) ⟨rfl, congrArg (A.vw 1 0) hpl0, rfl, rfl, incI hΩ (by omega), trivial⟩)⟩
  · replace h := geI hΩ h
    have : i = n := by omega
    subst this
    rw [List.drop_of_length_le (by omega)] at hRi
    have hRi : R = chgsA (0, 0, o) := hRi
    exact ⟨⟨rfl, hle⟩, .of (by rw [hRi]; show A.agg [i64 0, i64 0, .sl true 8 (Ω.take (Ω.len (F o)) (F o))] = A.agg [i64 0, i64 0, .sl true 8 (o.map Chg.enc)]; rw [htk, hFm])⟩
end Go.Proofs.YtfmcncflooechaaGreatDoor

/- What is written is read back: numbers, versions, words, lines. Plain theorems, no program. -/
set_option linter.unusedVariables false
set_option linter.unusedSimpArgs false
namespace Go.Proofs.YtfmcncflooechaaGreatDoor
open Go Go.Fw
theorem cut_none {c : UInt8} : ∀ {a : List UInt8}, c ∉ a → cutAt c a = [a]
  | [], _ => rfl
  | x :: xs, h => by
    simp only [List.mem_cons, not_or] at h
    rw [cutAt, if_neg (fun e => h.1 e.symm), cut_none h.2]
theorem cut_sep {c : UInt8} {rest : List UInt8} : ∀ {a : List UInt8}, c ∉ a → cutAt c (a ++ c :: rest) = a :: cutAt c rest
  | [], _ => by simp [cutAt]
  | x :: xs, h => by
    simp only [List.mem_cons, not_or] at h
    rw [List.cons_append, cutAt, if_neg (fun e => h.1 e.symm), cut_sep h.2]
theorem digN {d : Nat} (h : d < 10) : (UInt8.ofNat (48 + d)).toNat = 48 + d := by
  rw [UInt8.toNat_ofNat']
  exact Nat.mod_eq_of_lt (by omega)
theorem numL_dig {d : Nat} (h : d < 10) (cs : List UInt8) (n : Int) : numL (UInt8.ofNat (48 + d) :: cs) n = numL cs (10 * n + d) := by
  rw [numL, digN h, if_pos (by omega)]
  congr 1
  omega
theorem dec_cases {n : Nat} (h : n < 1000) : (n < 10 ∧ Lib.decDigits n = [UInt8.ofNat (48 + n)]) ∨ (10 ≤ n ∧ n < 100 ∧ Lib.decDigits n = [UInt8.ofNat (48 + n / 10), UInt8.ofNat (48 + n % 10)]) ∨
    (100 ≤ n ∧ Lib.decDigits n = [UInt8.ofNat (48 + n / 10 / 10), UInt8.ofNat (48 + n / 10 % 10), UInt8.ofNat (48 + n % 10)]) := by
  rcases Nat.lt_or_ge n 10 with h1 | h1
  · exact .inl ⟨h1, decD_small h1⟩
  · rcases Nat.lt_or_ge n 100 with h2 | h2
    · refine .inr (.inl ⟨h1, h2, ?_⟩)
      rw [decD_big h1, decD_small (by omega)]; rfl
    · refine .inr (.inr ⟨h2, ?_⟩)
      rw [decD_big h1, decD_big (by omega), decD_small (by omega)]; rfl
theorem num_itoa {n : Int} (h0 : 0 ≤ n) (h1 : n ≤ 999) : numC (Lib.itoa n) = n := by
  rw [itoa_dec h0]
  obtain ⟨m, rfl⟩ : ∃ m : Nat, n = m := ⟨n.toNat, by omega⟩
  rw [Int.toNat_natCast]
  unfold numC
  rcases dec_cases (n := m) (by omega) with ⟨h, e⟩ | ⟨h, h', e⟩ | ⟨h, e⟩
  · rw [e, if_neg (by simp), numL_dig h]; simp [numL]
  · rw [e, if_neg (by simp), numL_dig (by omega), numL_dig (by omega)]; simp only [numL]; omega
  · rw [e, if_neg (by simp), numL_dig (by omega), numL_dig (by omega), numL_dig (by omega)]; simp only [numL]; omega
theorem itoa_byte {n : Int} (h0 : 0 ≤ n) (h1 : n ≤ 999) {c : UInt8} (h : c ∈ Lib.itoa n) : 48 ≤ c.toNat ∧ c.toNat ≤ 57 := by
  rw [itoa_dec h0] at h
  have key : ∀ d : Nat, d < 10 → c = UInt8.ofNat (48 + d) → 48 ≤ c.toNat ∧ c.toNat ≤ 57 := fun d hd e => by rw [e, digN hd]; omega
  rcases dec_cases (n := n.toNat) (by omega) with ⟨h2, e⟩ | ⟨h2, h', e⟩ | ⟨h2, e⟩
  · rw [e] at h
    exact key _ h2 (List.mem_singleton.1 h)
  · rw [e] at h
    rcases List.mem_cons.1 h with h | h
    · exact key _ (by omega) h
    · exact key _ (by omega) (List.mem_singleton.1 h)
  · rw [e] at h
    rcases List.mem_cons.1 h with h | h
    · exact key _ (by omega) h
    · rcases List.mem_cons.1 h with h | h
      · exact key _ (by omega) h
      · exact key _ (by omega) (List.mem_singleton.1 h)
theorem itoa_ne {n : Int} (h0 : 0 ≤ n) (h1 : n ≤ 999) {k : UInt8} (hk : k.toNat < 48) : k ∉ Lib.itoa n := fun h => by have := itoa_byte h0 h1 h; omega
theorem ver_read {v : Ver} (h : verF v = 0) : verP (verT v) = (0, v) := by
  have h := verF_in h
  have e : cutAt 46 (verT v) = [Lib.itoa v.a, Lib.itoa v.b, Lib.itoa v.c] := by
    have e2 : verT v = Lib.itoa v.a ++ 46 :: (Lib.itoa v.b ++ 46 :: Lib.itoa v.c) := by simp [verT]
    rw [e2, cut_sep (itoa_ne (by omega) (by omega) (by decide)), cut_sep (itoa_ne (by omega) (by omega) (by decide)), cut_none (itoa_ne (by omega) (by omega) (by decide))]
  have na := num_itoa (n := v.a) (by omega) (by omega)
  have nb := num_itoa (n := v.b) (by omega) (by omega)
  have nc := num_itoa (n := v.c) (by omega) (by omega)
  unfold verP
  rw [e, if_pos (by simp [verOK, na, nb, nc]; omega)]
  simp [numAt, na, nb, nc]
theorem verT_byte {v : Ver} (h : verF v = 0) {c : UInt8} (hc : c ∈ verT v) : c = 46 ∨ (48 ≤ c.toNat ∧ c.toNat ≤ 57) := by
  have h := verF_in h
  simp only [verT, List.mem_append, List.mem_singleton] at hc
  rcases hc with (((hc | hc) | hc) | hc) | hc
  · exact .inr (itoa_byte (by omega) (by omega) hc)
  · exact .inl hc
  · exact .inr (itoa_byte (by omega) (by omega) hc)
  · exact .inl hc
  · exact .inr (itoa_byte (by omega) (by omega) hc)
theorem verT_ne {v : Ver} (h : verF v = 0) {k : UInt8} (hk : k.toNat < 46) : k ∉ verT v := fun hc => by
  rcases verT_byte h hc with rfl | h2
  · exact absurd hk (by decide)
  · omega
theorem verT_nil {v : Ver} : verT v ≠ [] := by simp [verT]
theorem allCode_all {α : Type} {p : α → Bool} {k : Int} (hk : k ≠ 0) : ∀ {l : List α}, allCode p k l = 0 → ∀ c ∈ l, p c = true
  | [], _, c, hc => by cases hc
  | x :: xs, h, c, hc => by
    unfold allCode at h
    split at h
    · rename_i hx
      rcases List.mem_cons.1 hc with rfl | hc
      · exact hx
      · exact allCode_all hk h c hc
    · exact absurd h hk
theorem name_byte {n : List UInt8} (h : nameF n = 0) : n ≠ [] ∧ ∀ c ∈ n, nameB c = true := by
  unfold nameF at h
  split at h
  · cases h
  · rename_i h1
    split at h
    · cases h
    · split at h
      · refine ⟨fun e => by rw [e] at h1; simp at h1, ?_⟩
        exact allCode_all (by decide) h
      · cases h
theorem name_ne {n : List UInt8} (h : nameF n = 0) {k : UInt8} (hk : nameB k = false) : k ∉ n := fun hc => by
  have := (name_byte h).2 k hc
  rw [hk] at this; cases this

theorem join1 (a : List UInt8) : Lib.join [a] [32] = a := by simp [Lib.join]
def coreT (x : Chg) : List UInt8 := Lib.join (wordsT x) [32]
theorem words_join {ws : List (List UInt8)} (h : ∀ w ∈ ws, w ≠ [] ∧ (32 : UInt8) ∉ w) (hn : ws ≠ []) : wordsP (Lib.join ws [32]) = ws := by
  have cut : ∀ {ws : List (List UInt8)}, (∀ w ∈ ws, w ≠ [] ∧ (32 : UInt8) ∉ w) → ws ≠ [] → cutAt 32 (Lib.join ws [32]) = ws := by
    intro ws
    induction ws with
    | nil => intro _ hn; exact absurd rfl hn
    | cons w ws ih =>
      intro h _
      cases ws with
      | nil => rw [join1]; exact cut_none (h w (by simp)).2
      | cons u us =>
        have e : Lib.join (w :: u :: us) [32] = w ++ 32 :: Lib.join (u :: us) [32] := by simp [Lib.join]
        rw [e, cut_sep (h w (by simp)).2, ih (fun x hx => h x (by simp [List.mem_cons.1 hx])) (by simp)]
  unfold wordsP
  rw [cut h hn]
  exact List.filter_eq_self.2 fun w hw => by simp [(h w hw).1]
theorem words_told {x : Chg} (h : told x = true) : ∀ w ∈ wordsT x, w ≠ [] ∧ (32 : UInt8) ∉ w ∧ (10 : UInt8) ∉ w := by
  obtain ⟨h1, h2, h3⟩ := told_of h
  have hn : x.n ≠ [] ∧ (32 : UInt8) ∉ x.n ∧ (10 : UInt8) ∉ x.n := ⟨(name_byte h1).1, name_ne h1 (by decide), name_ne h1 (by decide)⟩
  have ho : verT x.o ≠ [] ∧ (32 : UInt8) ∉ verT x.o ∧ (10 : UInt8) ∉ verT x.o := ⟨verT_nil, verT_ne h2 (by decide), verT_ne h2 (by decide)⟩
  have hw : verT x.w ≠ [] ∧ (32 : UInt8) ∉ verT x.w ∧ (10 : UInt8) ∉ verT x.w := ⟨verT_nil, verT_ne h3 (by decide), verT_ne h3 (by decide)⟩
  intro w hm
  unfold wordsT at hm
  split at hm
  · simp only [List.mem_cons, List.mem_nil_iff, or_false] at hm
    rcases hm with rfl | rfl | rfl
    · decide
    · exact hn
    · exact ho
  · split at hm
    · simp only [List.mem_cons, List.mem_nil_iff, or_false] at hm
      rcases hm with rfl | rfl | rfl | rfl
      · decide
      · exact hn
      · exact ho
      · exact hw
    · simp only [List.mem_cons, List.mem_nil_iff, or_false] at hm
      rcases hm with rfl | rfl | rfl
      · decide
      · exact hn
      · exact hw
theorem core_ne {x : Chg} (h : told x = true) : (10 : UInt8) ∉ coreT x := by
  have key : ∀ ws : List (List UInt8), (∀ w ∈ ws, (10 : UInt8) ∉ w) → (10 : UInt8) ∉ Lib.join ws [32] := by
    intro ws
    induction ws with
    | nil => intro _; simp [Lib.join]
    | cons w ws ih =>
      intro h
      cases ws with
      | nil => rw [join1]; exact h w (by simp)
      | cons u us =>
        have e : Lib.join (w :: u :: us) [32] = w ++ 32 :: Lib.join (u :: us) [32] := by simp [Lib.join]
        rw [e]
        intro hc
        rcases List.mem_append.1 hc with hc | hc
        · exact h w (by simp) hc
        · rcases List.mem_cons.1 hc with hc | hc
          · exact absurd hc (by decide)
          · exact ih (fun x hx => h x (by simp [List.mem_cons.1 hx])) hc
  exact key _ fun w hw => (words_told h w hw).2.2
theorem words_core {x : Chg} (h : told x = true) : wordsP (coreT x) = wordsT x := words_join (fun w hw => ⟨(words_told h w hw).1, (words_told h w hw).2.1⟩) (by unfold wordsT; split <;> (try split) <;> simp)
theorem read_told {x : Chg} (h : told x = true) : readC (wordsT x) = some x := by
  obtain ⟨h1, h2, h3⟩ := told_of h
  have ro := ver_read h2
  have rw' := ver_read h3
  unfold told at h
  simp only [Bool.and_eq_true, decide_eq_true_eq] at h
  obtain ⟨-, -, -, hk⟩ := h
  obtain ⟨k, n, o, w⟩ := x
  dsimp only at *
  by_cases k1 : k = 1
  · subst k1
    simp at hk
    subst hk
    simp [wordsT, readC, h1, rw']
  · by_cases k2 : k = 2
    · subst k2
      simp at hk
      subst hk
      simp [wordsT, readC, h1, ro]
    · simp [k1, k2] at hk
      subst hk
      simp [wordsT, readC, h1, ro, rw']
theorem fmtL_all : ∀ {g : List Chg} {acc : List UInt8}, (∀ x ∈ g, told x = true) → fmtL g acc = acc ++ (g.map lineT).flatten
  | [], acc, _ => by simp [fmtL]
  | x :: g, acc, h => by
    rw [fmtL, if_pos (h x (by simp)), fmtL_all fun y hy => h y (by simp [hy])]
    simp
theorem fmtL_some : ∀ {g : List Chg} {acc : List UInt8}, (∃ x ∈ g, told x = false) → fmtL g acc = []
  | [], acc, ⟨x, hx, _⟩ => by cases hx
  | x :: g, acc, ⟨y, hy, ht⟩ => by
    rw [fmtL]
    split
    · rename_i hx
      rcases List.mem_cons.1 hy with rfl | hy
      · rw [ht] at hx; cases hx
      · exact fmtL_some ⟨y, hy, ht⟩
    · rfl
theorem cut_lines : ∀ {g : List Chg}, (∀ x ∈ g, told x = true) → cutAt 10 (g.map lineT).flatten = g.map coreT ++ [[]]
  | [], _ => rfl
  | x :: g, h => by
    have e : ((x :: g).map lineT).flatten = coreT x ++ 10 :: (g.map lineT).flatten := by simp [lineT, coreT]
    rw [e, cut_sep (core_ne (h x (by simp))), cut_lines fun y hy => h y (by simp [hy])]
    rfl
theorem lines_fmt {g : List Chg} (h : ∀ x ∈ g, told x = true) : linesP (g.map lineT).flatten = g.map coreT := by
  unfold linesP
  rw [cut_lines h]
  have e : (g.map coreT ++ [[]]).length - 1 = (g.map coreT).length := by simp
  rw [e, if_pos (by rw [List.getD_eq_getElem?_getD]; simp), List.take_left']
  rfl
theorem parseL_told : ∀ {g : List Chg} {i : Nat} {acc : List Chg}, (∀ x ∈ g, told x = true) → parseL (g.map coreT) i acc = (0, 0, acc ++ g)
  | [], i, acc, _ => by simp [parseL]
  | x :: g, i, acc, h => by
    have hx := h x (by simp)
    rw [List.map_cons, parseL, words_core hx, read_told hx]
    simp only
    rw [parseL_told fun y hy => h y (by simp [hy])]
    simp
/-- What is written is read back. -/
theorem parse_fmt {g : List Chg} (h : fmtC g ≠ []) (hl : (fmtC g).length ≤ 4000) : parseC (fmtC g) = (0, 0, g) := by
  have ht : ∀ x ∈ g, told x = true := fun x hx => by
    rcases hb : told x with _ | _
    · exact absurd (fmtL_some ⟨x, hx, hb⟩) h
    · rfl
  have e : fmtC g = (g.map lineT).flatten := by unfold fmtC; rw [fmtL_all ht]; rfl
  unfold parseC
  rw [if_neg (by omega), e, lines_fmt ht, parseL_told ht]
  rfl
end Go.Proofs.YtfmcncflooechaaGreatDoor

/- Walks: draws of numbers. Plain theorems. -/
set_option linter.unusedVariables false
set_option linter.unusedSimpArgs false
namespace Go.Proofs.YtfmcncflooechaaGreatDoor
open Go Go.Fw
set_option maxRecDepth 100000
/-- The bytes that are read, and how many were. -/
def src (bs : List A) (p : Int) : A := .bx [.sl false 1 bs, i64 p]
structure Src (bs : List A) : Prop where
  len : bs.length ≤ 1048576
  byte : ∀ i, i < bs.length → ∃ c : UInt8, bs[i]? = some (.sc (.int .u8 (c.toNat : Int)))
/-- The number that is drawn of n at place p. -/
def nxt (k : Nat) (f : Nat → Int) (p n : Int) : Int :=
  if n < 1 then 0 else if (k : Int) = 0 then (p * 7).tmod n else
    let v := f (p.tmod k).toNat + p.tdiv k * 37
    (if 200 < n then v * 251 + f ((p + 1).tmod k).toNat * 13 + p else v).tmod n
theorem Src.fn {bs : List A} (h : Src bs) : ∃ f : Nat → Int, (∀ i, i < bs.length → bs[i]? = some (.sc (.int .u8 (f i)))) ∧ ∀ i, 0 ≤ f i ∧ f i ≤ 255 := by
  have : ∀ i, ∃ x : Int, (i < bs.length → bs[i]? = some (.sc (.int .u8 x))) ∧ 0 ≤ x ∧ x ≤ 255 := fun i => by
    by_cases hi : i < bs.length
    · obtain ⟨c, hc⟩ := h.byte i hi
      refine ⟨c.toNat, fun _ => hc, Int.natCast_nonneg _, ?_⟩
      have := c.toNat_lt
      omega
    · exact ⟨0, fun h => absurd h hi, by omega, by omega⟩
  exact ⟨fun i => (this i).choose, fun i hi => (this i).choose_spec.1 hi, fun i => (this i).choose_spec.2⟩
theorem i64w {x : Int} (h1 : -9223372036854775808 ≤ x) (h2 : x ≤ 9223372036854775807) : IntKind.i64.wrap x = x := wrap64 h1 h2
theorem pInc {Ω : Opq} (hΩ : Ω = std) {p q : Int} (h0 : 0 ≤ p) (h1 : p ≤ 1099511627776) (hq : q = p + 1) : Ω.ar .add .i64 p 1 = q := by subst hΩ; rw [hq]; exact i64w (by omega) (by omega)
theorem pDec {Ω : Opq} (hΩ : Ω = std) {p q : Int} (h0 : 0 ≤ p) (h1 : p ≤ 1099511627776) : Ω.ar .sub .i64 (Ω.ar .add .i64 p 1) 1 = p := by
  rw [pInc hΩ h0 h1 rfl]; subst hΩ; show IntKind.i64.wrap (p + 1 - 1) = p; rw [i64w (by omega) (by omega)]; omega
theorem tmodB {p k : Int} (h0 : 0 ≤ p) (hk : 0 < k) : 0 ≤ p.tmod k ∧ p.tmod k < k := ⟨Int.tmod_nonneg _ h0, Int.tmod_lt_of_pos _ hk⟩
theorem tdivB {p k : Int} (h0 : 0 ≤ p) (hk : 0 < k) : 0 ≤ p.tdiv k ∧ p.tdiv k ≤ p := by
  rw [Int.tdiv_eq_ediv_of_nonneg h0]
  exact ⟨Int.ediv_nonneg h0 (Int.le_of_lt hk), Int.ediv_le_self _ h0⟩
theorem rdM {Ω : Opq} (hΩ : Ω = std) {bs : List A} {f : Nat → Int} {k : Nat} (hk : k = bs.length) (hf : ∀ i, i < k → bs[i]? = some (.sc (.int .u8 (f i)))) {x p : Int} (hx : x = p) (h0 : 0 ≤ p) (hk0 : ¬ (k : Int) = 0) :
    bs[(Ω.ar .rem .i64 x (Ω.int (Ω.len bs))).toNat]? = some (.sc (.int .u8 (f (p.tmod k).toNat))) := by
  subst hΩ; subst hx
  show bs[(x.tmod (bs.length : Int)).toNat]? = _
  rw [← hk]
  obtain ⟨h1, h2⟩ := tmodB h0 (show (0 : Int) < k by omega)
  exact hf _ (by omega)
theorem remNN {Ω : Opq} (hΩ : Ω = std) {bs : List A} {k : Nat} (hk : k = bs.length) {x p : Int} (hx : x = p) (h0 : 0 ≤ p) (hk0 : ¬ (k : Int) = 0) : 0 ≤ Ω.ar .rem .i64 x (Ω.int (Ω.len bs)) := by
  subst hΩ; subst hx
  exact Int.tmod_nonneg _ h0
theorem lenNZ {Ω : Opq} (hΩ : Ω = std) {bs : List A} {k : Nat} (hk : k = bs.length) (hk0 : ¬ (k : Int) = 0) : Ω.int (Ω.len bs) ≠ 0 := by subst hΩ; intro h; exact hk0 (by rw [hk]; exact h)
theorem c_l1Next {bs : List A} (hb : Src bs) (p n : Int) (h0 : 0 ≤ p) (h1 : p ≤ 1099511627776) (hn : n ≤ 4294967296) :
    ∃ r, MCtr PP n_spec_l1Next [src bs p, i64 n] (i64 r) [src bs (p + 1), i64 n] ∧ (n < 1 → r = 0) ∧ (1 ≤ n → 0 ≤ r ∧ r < n) := by
  obtain ⟨f, hf, hfb⟩ := hb.fn
  have hlen := hb.len
  obtain ⟨k, hk⟩ : ∃ k, k = bs.length := ⟨_, rfl⟩
  rw [← hk] at hlen hf
  refine ⟨nxt k f p n, ?_, fun h => by rw [nxt, if_pos h], fun h => ?_⟩
  · by_cases hk0 : (k : Int) = 0
    · obtain ⟨Ω, hΩ⟩ : ∃ Ω, Ω = std := ⟨_, rfl⟩
      obtain ⟨r, hr⟩ : ∃ r, r = nxt k f p n := ⟨_, rfl⟩
      rw [← hr]
      unfold src nxt at *
      obtain ⟨q, hq⟩ : ∃ q, q = p + 1 := ⟨_, rfl⟩
      rw [← hq] at hr ⊢
      rw [if_pos hk0] at hr
      have hl0 : Ω.int (Ω.len bs) = 0 := by subst hΩ; rw [← hk0, hk]; rfl
      have htab := tab
      have hmo := hmo
      refine MCtr.walkO tab hΩ 3 fn_spec_l1Next rfl rfl rfl ?_
      generalize PP = P at *
      have fin : ∀ {x : Int}, x = r → FitX (A.sc (Value.int IntKind.i64 x)) (A.sc (Value.int IntKind.i64 r)) ∧ FitLX [A.bx [A.sl false 1 bs, A.sc (Value.int IntKind.i64 (Ω.ar BinOp.add IntKind.i64 p 1))], A.sc (Value.int IntKind.i64 n)]
          [A.bx [A.sl false 1 bs, A.sc (Value.int IntKind.i64 q)], A.sc (Value.int IntKind.i64 n)] := fun h => ⟨.of (congrArg i64 h), .of (by rw [pInc hΩ h0 h1 hq])⟩
      cbv
      refine br (fun h => ?_) (fun h => ?_) <;> cbv
      · exact fin (by rw [hr, if_pos (ltI_t hΩ h)])
      have hn1 := ltI_f hΩ h
      rw [if_neg (by omega)] at hr
      refine br (fun h => ?_) (fun h => absurd (by subst hΩ; exact (show ((bs.length : Nat) : Int) = 0 by rw [← hk]; exact hk0)) (eqI_f hΩ h)) <;> cbv
      refine ⟨⟨by omega⟩, fin ?_⟩
      rw [hr]
      have e := pDec (q := 0) hΩ h0 h1
      refine Eq.trans (congrArg (fun z => Ω.ar .rem .i64 (Ω.ar .mul .i64 z 7) n) e) ?_
      subst hΩ
      show (IntKind.i64.wrap (p * 7)).tmod n = _
      rw [i64w (by omega) (by omega)]
    · obtain ⟨m1, m2⟩ := tmodB h0 (show (0 : Int) < k by omega)
      obtain ⟨d1, d2⟩ := tdivB h0 (show (0 : Int) < k by omega)
      have hvb := hfb (p.tmod k).toNat
      have hvb2 := hfb ((p + 1).tmod k).toNat
      obtain ⟨Ω, hΩ⟩ : ∃ Ω, Ω = std := ⟨_, rfl⟩
      obtain ⟨r, hr⟩ : ∃ r, r = nxt k f p n := ⟨_, rfl⟩
      rw [← hr]
      unfold src nxt at *
      obtain ⟨q, hq⟩ : ∃ q, q = p + 1 := ⟨_, rfl⟩
      rw [← hq] at hr ⊢
      rw [if_neg hk0] at hr
      rw [← hq] at hvb2
      have hrd1 : ∀ x, x = p → bs[(Ω.ar .rem .i64 x (Ω.int (Ω.len bs))).toNat]? = some (.sc (.int .u8 (f (p.tmod k).toNat))) := fun x hx => rdM hΩ hk hf hx h0 hk0
      have hrd2 : ∀ x, x = q → bs[(Ω.ar .rem .i64 x (Ω.int (Ω.len bs))).toNat]? = some (.sc (.int .u8 (f (q.tmod k).toNat))) := fun x hx => rdM hΩ hk hf hx (by omega) hk0
      have hnn1 : ∀ x, x = p → 0 ≤ Ω.ar .rem .i64 x (Ω.int (Ω.len bs)) := fun x hx => remNN hΩ hk hx h0 hk0
      have hnn2 : ∀ x, x = q → 0 ≤ Ω.ar .rem .i64 x (Ω.int (Ω.len bs)) := fun x hx => remNN hΩ hk hx (by omega) hk0
      have hquo : ∀ x, x = p → Ω.ar .quo .i64 x (Ω.int (Ω.len bs)) = p.tdiv k := fun x hx => by
        subst hΩ; subst hx; rw [hk] at d1 d2 ⊢; exact (i64w (x := x.tdiv (bs.length : Int)) (by omega) (by omega))
      have hnz := lenNZ hΩ hk hk0
      have hne : Ω.int (Ω.len bs) = 0 → False := hnz
      generalize f (p.tmod k).toNat = g1 at *
      generalize f (q.tmod k).toNat = g2 at *
      generalize p.tdiv k = d at *
      obtain ⟨v, hv⟩ : ∃ v, v = g1 + d * 37 := ⟨_, rfl⟩
      have hv3 : 0 ≤ v ∧ v ≤ 40681930227967 := by omega
      have hvw : IntKind.i64.wrap (IntKind.i64.wrap g1 + IntKind.i64.wrap (d * 37)) = v := by
        rw [i64w (x := d * 37) (by omega) (by omega), i64w (x := g1) (by omega) (by omega), i64w (by omega) (by omega), hv]
      rw [← hv] at hr
      clear hk0 m1 m2 hfb hf hlen hk
      have htab := tab
      have hmo := hmo
      refine MCtr.walkO tab hΩ 3 fn_spec_l1Next rfl rfl rfl ?_
      generalize PP = P at *
      have fin : ∀ {x : Int}, x = r → FitX (A.sc (Value.int IntKind.i64 x)) (A.sc (Value.int IntKind.i64 r)) ∧ FitLX [A.bx [A.sl false 1 bs, A.sc (Value.int IntKind.i64 (Ω.ar BinOp.add IntKind.i64 p 1))], A.sc (Value.int IntKind.i64 n)]
          [A.bx [A.sl false 1 bs, A.sc (Value.int IntKind.i64 q)], A.sc (Value.int IntKind.i64 n)] := fun h => ⟨.of (congrArg i64 h), .of (by rw [pInc hΩ h0 h1 hq])⟩
      cbv
      refine br (fun h => ?_) (fun h => ?_) <;> cbv
      · exact fin (by rw [hr, if_pos (ltI_t hΩ h)])
      have hn1 := ltI_f hΩ h
      rw [if_neg (by omega)] at hr
      refine br (fun h => absurd (eqI_t hΩ h) hne) (fun h => ?_) <;> cbv
      have e := pDec (q := 0) hΩ h0 h1
      refine ⟨VC_drawn htab hΩ hmo (by kernel_rfl) ?_⟩
      cbv
      refine ⟨⟨hne⟩, ⟨hnn1 _ e⟩, _, hrd1 _ e, ?_⟩
      cbv
      refine ⟨⟨hne⟩, br (fun h => ?_) (fun h => ?_)⟩ <;> cbv
      · have hn2 : 200 < n := gtI_t hΩ h
        have hr' : r = (v * 251 + g2 * 13 + p).tmod n := by rw [hr]; exact congrArg (fun z => Int.tmod z n) (if_pos hn2)
        have e3 : Ω.ar .add .i64 (Ω.ar .sub .i64 (Ω.ar .add .i64 p 1) 1) 1 = q := by rw [e]; exact pInc hΩ h0 h1 hq
        refine ⟨VC_drawn htab hΩ hmo (by kernel_rfl) ?_⟩
        cbv
        refine ⟨⟨hne⟩, ⟨hnn2 _ e3⟩, _, hrd2 _ e3, ?_⟩
        cbv
        refine ⟨⟨by omega⟩, fin ?_⟩
        rw [hr']
        have eq := hquo _ e
        refine Eq.trans (congrArg (fun z => Ω.ar .rem .i64 (Ω.ar .add .i64 (Ω.ar .add .i64 (Ω.ar .mul .i64 (Ω.ar .add .i64 (Ω.wrap .i64 g1) (Ω.ar .mul .i64 z 37)) 251) (Ω.ar .mul .i64 (Ω.wrap .i64 g2) 13)) (Ω.ar .sub .i64 (Ω.ar .add .i64 p 1) 1)) n) eq) ?_
        rw [e]
        subst hΩ
        show (IntKind.i64.wrap (IntKind.i64.wrap (IntKind.i64.wrap (IntKind.i64.wrap (IntKind.i64.wrap g1 + IntKind.i64.wrap (d * 37)) * 251) + IntKind.i64.wrap (IntKind.i64.wrap g2 * 13)) + p)).tmod n = _
        rw [hvw, i64w (x := v * 251) (by omega) (by omega), i64w (x := g2) (by omega) (by omega), i64w (x := g2 * 13) (by omega) (by omega), i64w (x := v * 251 + _) (by omega) (by omega), i64w (by omega) (by omega)]
      · have hn2 : ¬ 200 < n := by have := gtI_f hΩ h; omega
        have hr' : r = v.tmod n := by rw [hr]; exact congrArg (fun z => Int.tmod z n) (if_neg hn2)
        refine ⟨⟨by omega⟩, fin ?_⟩
        rw [hr']
        have eq := hquo _ e
        refine Eq.trans (congrArg (fun z => Ω.ar .rem .i64 (Ω.ar .add .i64 (Ω.wrap .i64 g1) (Ω.ar .mul .i64 z 37)) n) eq) ?_
        subst hΩ
        show (IntKind.i64.wrap (IntKind.i64.wrap g1 + IntKind.i64.wrap (d * 37))).tmod n = _
        rw [hvw]
  · unfold nxt
    rw [if_neg (by omega)]
    split
    · exact ⟨Int.tmod_nonneg _ (by omega), Int.tmod_lt_of_pos _ (by omega)⟩
    · rename_i hk0
      obtain ⟨d1, d2⟩ := tdivB h0 (show (0 : Int) < k by omega)
      have hvb := hfb (p.tmod k).toNat
      have hvb2 := hfb ((p + 1).tmod k).toNat
      refine ⟨Int.tmod_nonneg _ ?_, Int.tmod_lt_of_pos _ (by omega)⟩
      split <;> omega
/-- What a draw comes to: bytes are read on, K of them at most; what is handed back is as Q says. -/
def DR (bs : List A) (p K : Int) (rest : List A) (Q : A → Prop) : A → List A → Prop := fun x o => ∃ q, p ≤ q ∧ q ≤ p + K ∧ o = src bs q :: rest ∧ Q x
theorem call_dr {P : Program} {S : State} {Ω : Opq} (fz : Bool) (hΩ : Ω = std) (k : Nat) {g r : Nat} {bs rest : List A} {p K : Int} {Q : A → Prop} {Kc : A → State → Prop} (hc : XCtr P g (src bs p :: rest) (DR bs p K rest Q))
    (hr : Fw.rowAt S.rows r = some ⟨2, [.agg [.sl false 1 bs, i64 p]], true⟩) (hrd : rest.all isData = true) (hrn : rest.all noOwn = true)
    (h : ∀ q x, p ≤ q → q ≤ p + K → Q x → noOwn (rootO Ω k (S.mut [(r, [.agg [.sl false 1 bs, i64 q]])]) (fzA fz x)).1 = true ∧
      Kc (rootO Ω k (S.mut [(r, [.agg [.sl false 1 bs, i64 q]])]) (fzA fz x)).1 (rootO Ω k (S.mut [(r, [.agg [.sl false 1 bs, i64 q]])]) (fzA fz x)).2) : CallX P g (.pt r 0 0 :: rest) S Kc :=
  call_box (row := ⟨2, [.agg [.sl false 1 bs, i64 p]], true⟩) hΩ k fz hc hr rfl rfl rfl rfl hrd hrn fun x outs ⟨q, h1, h2, h3, h4⟩ => ⟨[.sl false 1 bs, i64 q], h3, rfl, rfl, h q x h1 h2 h4⟩
theorem d_l1Next {bs : List A} (hb : Src bs) (p n : Int) (h0 : 0 ≤ p) (h1 : p ≤ 1099511627776) (hn : n ≤ 4294967296) :
    XCtr PP n_spec_l1Next [src bs p, i64 n] (DR bs p 1 [i64 n] fun x => ∃ r, x = i64 r ∧ (n < 1 → r = 0) ∧ (1 ≤ n → 0 ≤ r ∧ r < n)) := by
  obtain ⟨r, h, h2⟩ := c_l1Next hb p n h0 h1 hn
  exact h.x ⟨p + 1, by omega, by omega, rfl, r, rfl, h2⟩
theorem d_l1Chance {bs : List A} (hb : Src bs) (p n : Int) (h0 : 0 ≤ p) (h1 : p ≤ 1099511627776) (hn : n ≤ 4294967296) :
    XCtr PP n_spec_l1Chance [src bs p, i64 n] (DR bs p 1 [i64 n] fun x => ∃ b, x = boo b) := by
  obtain ⟨Ω, hΩ⟩ : ∃ Ω, Ω = std := ⟨_, rfl⟩
  have hN := d_l1Next hb p n h0 h1 hn
  have htab := tab
  refine XCtr.walkO tab hΩ 3 fn_spec_l1Chance rfl rfl ?_
  generalize PP = P at *
  cbv
  refine call_dr false hΩ 3 hN rfl rfl rfl (fun q x q1 q2 ⟨r, hx, hr⟩ => ?_)
  subst hx
  cbv
  exact ⟨_, _, .same, .same, ⟨q, by omega, by omega, rfl, _, rfl⟩, rfl⟩
/-- A list that is handed over to be picked from, and given back. -/
def PR (bs : List A) (p : Int) (ns : List Int) : A → List A → Prop := fun x o => ∃ q, p ≤ q ∧ q ≤ p + 1 ∧ o = [src bs q, .sl true 1 (ns.map i64)] ∧ ∃ n, n ∈ ns ∧ x = i64 n
theorem d_l1Pick {bs : List A} (hb : Src bs) (p : Int) (ns : List Int) (h0 : 0 ≤ p) (h1 : p ≤ 1099511627776) (hn0 : 0 < ns.length) (hn : ns.length ≤ 4294967296) :
    XCtr PP n_spec_l1Pick [src bs p, .sl true 1 (ns.map i64)] (PR bs p ns) := by
  obtain ⟨Ω, hΩ⟩ : ∃ Ω, Ω = std := ⟨_, rfl⟩
  have hN := fun n => d_l1Next hb p n h0 h1
  obtain ⟨xs, hxs⟩ : ∃ xs, xs = ns.map i64 := ⟨_, rfl⟩
  have hlen : xs.length = ns.length := by rw [hxs, List.length_map]
  rw [← hxs]
  have hat : ∀ r, 0 ≤ r → r < Ω.int (Ω.len xs) → ∃ n, n ∈ ns ∧ xs[Ω.plus 0 (Ω.nat r)]? = some (i64 n) ∧ 0 ≤ r ∧ r < (Ω.len xs : Int) := fun r h0 h => by
    subst hΩ
    have h : r < (xs.length : Int) := h
    obtain ⟨n, hn⟩ := at_of (cs := ns) (i := r.toNat) (by omega)
    refine ⟨n, List.mem_of_getElem? hn, ?_, h0, h⟩
    show xs[0 + r.toNat]? = _
    rw [Nat.zero_add, hxs, List.getElem?_map, hn]; rfl
  have hpos : 1 ≤ Ω.int (Ω.len xs) := by subst hΩ; show (1 : Int) ≤ xs.length; omega
  have hle : Ω.int (Ω.len xs) ≤ 4294967296 := by subst hΩ; show (xs.length : Int) ≤ _; omega
  have hout : ∀ q n, p ≤ q → q ≤ p + 1 → n ∈ ns → PR bs p ns (i64 n) [src bs q, .sl true 1 xs] := fun q n q1 q2 hm => ⟨q, q1, q2, by rw [hxs], n, hm, rfl⟩
  generalize hRR : PR bs p ns = RR at *
  have htab := tab
  refine XCtr.walkO tab hΩ 3 fn_spec_l1Pick rfl rfl ?_
  generalize PP = P at *
  cbv
  refine call_dr false hΩ 3 (hN _ hle) rfl rfl rfl (fun q x q1 q2 ⟨r, hx, hr⟩ => ?_)
  subst hx
  cbv
  obtain ⟨n, hm, hat, ha1, ha2⟩ := hat r (hr.2 hpos).1 (hr.2 hpos).2
  refine ⟨⟨ha1, ha2⟩, _, hat, ?_⟩
  cbv
  exact ⟨⟨rfl, by subst hΩ; exact Nat.le_refl _⟩, _, _, .same, .of (by subst hΩ; show [_, A.sl true 1 (List.take xs.length xs)] = [src bs q, A.sl true 1 xs]; rw [List.take_length]; rfl), hout q n q1 q2 hm, rfl⟩
theorem call_pick {P : Program} {S : State} {Ω : Opq} (hΩ : Ω = std) {g r r2 len : Nat} {bs : List A} {p : Int} {ns : List Int} {xs : List A} {Kc : A → State → Prop} (hc : XCtr P g [src bs p, .sl true 1 (ns.map i64)] (PR bs p ns))
    (hr : Fw.rowAt S.rows r = some ⟨2, [.agg [.sl false 1 bs, i64 p]], true⟩) (hr2 : Fw.rowAt S.rows r2 = some ⟨1, xs, false⟩) (hxs : xs = ns.map i64) (hl : len = xs.length) (hne : r ≠ r2)
    (h : ∀ q n, p ≤ q → q ≤ p + 1 → n ∈ ns → Kc (i64 n) (S.mut [(r, [.agg [.sl false 1 bs, i64 q]]), (r2, xs)])) : CallX P g [.pt r 0 0, .vw r2 0 len] S Kc := by
  have hm : ∀ q : Int, MutL S [.pt r 0 0, .vw r2 0 len] [src bs p, .sl true 1 xs] [src bs q, .sl true 1 xs] [(r, [.agg [.sl false 1 bs, i64 q]]), (r2, xs)] := fun q =>
    .cons (l := [(r, [.agg [.sl false 1 bs, i64 q]])]) (ls := [(r2, xs)]) (.pt (row := ⟨2, [.agg [.sl false 1 bs, i64 p]], true⟩) (ys' := [.sl false 1 bs, i64 q]) hr rfl rfl rfl rfl)
      (.cons (l := [(r2, xs)]) (ls := []) (.row (row := ⟨1, xs, false⟩) hr2 rfl hl rfl) .nil)
  rw [← hxs] at hc
  refine call_rel hΩ 1 hc [(r, [.agg [.sl false 1 bs, i64 p]]), (r2, xs)] (by simp [hne]) ⟨_, hm p⟩ ?_
  rintro x o ⟨q, q1, q2, rfl, n, hn, rfl⟩
  rw [← hxs]
  exact ⟨[(r, [.agg [.sl false 1 bs, i64 q]]), (r2, xs)], rfl, hm q, rfl, h q n q1 q2 hn⟩
/-- One of some texts. -/
theorem nth_of {α : Type} {Ω : Opq} (hΩ : Ω = std) {f : α → A} {ns : List α} {xs : List A} {r : Int} (hxs : xs = ns.map f) (h0 : 0 ≤ r) (h1 : r < (ns.length : Int)) : ∃ n, n ∈ ns ∧ xs[Ω.plus 0 (Ω.nat r)]? = some (f n) := by
  subst hΩ
  obtain ⟨n, hn⟩ := at_of (cs := ns) (i := r.toNat) (by omega)
  refine ⟨n, List.mem_of_getElem? hn, ?_⟩
  show xs[0 + r.toNat]? = _
  rw [Nat.zero_add, hxs, List.getElem?_map, hn]; rfl
theorem d_l1DrawName {bs : List A} (hb : Src bs) (p : Int) (h0 : 0 ≤ p) (h1 : p ≤ 1099511627776) : XCtr PP n_spec_l1DrawName [src bs p] (DR bs p 1 [] fun x => ∃ n, x = str n) := by
  obtain ⟨Ω, hΩ⟩ : ∃ Ω, Ω = std := ⟨_, rfl⟩
  have hN := fun n => d_l1Next hb p n h0 h1
  have htab := tab
  refine XCtr.walkO tab hΩ 3 fn_spec_l1DrawName rfl rfl ?_
  generalize PP = P at *
  cbv
  refine call_dr false hΩ 3 (hN 6 (by omega)) rfl rfl rfl (fun q x q1 q2 ⟨r, hx, hr⟩ => ?_)
  subst hx
  cbv
  obtain ⟨nm, _, hnm⟩ := nth_of (f := str) (ns := [[97], [98], [99], [100], [108, 105, 98], [119, 101, 98]]) hΩ rfl (hr.2 (by omega)).1 (hr.2 (by omega)).2
  refine ⟨⟨hr.2 (by omega)⟩, _, hnm, ?_⟩
  cbv
  exact ⟨_, _, .same, .same, ⟨q, by omega, by omega, rfl, _, rfl⟩, rfl⟩
theorem d_l1BentName {bs : List A} (hb : Src bs) (p : Int) (h0 : 0 ≤ p) (h1 : p + 2 ≤ 1099511627776) : XCtr PP n_spec_l1BentName [src bs p] (DR bs p 2 [] fun x => ∃ n, x = str n) := by
  obtain ⟨Ω, hΩ⟩ : ∃ Ω, Ω = std := ⟨_, rfl⟩
  have hC := fun p n a b c => d_l1Chance hb p n a b c
  have hN := fun p n a b c => d_l1Next hb p n a b c
  have hl1DrawName := fun p a b => d_l1DrawName hb p a b
  have htab := tab
  have hmo := hmo
  refine XCtr.walkO tab hΩ 3 fn_spec_l1BentName rfl rfl ?_
  generalize PP = P at *
  cbv
  repeat' (first | (refine br (fun h => ?_) (fun h => ?_) <;> cbv) | (refine call_dr false hΩ 3 (hC _ _ (by omega) (by omega) (by omega)) rfl rfl rfl (fun q x q1 q2 ⟨r, hx⟩ => ?_); subst hx; cbv) | (refine call_dr false hΩ 3 (hN _ 9 (by omega) (by omega) (by omega)) rfl rfl rfl (fun q x q1 q2 ⟨r, hx, hr⟩ => ?_); subst hx; cbv; obtain ⟨nm, _, hnm⟩ := nth_of (f := str) (ns := [[], [49, 97], [65], [97, 98, 99, 100, 101, 102, 103, 104, 105, 106, 107, 108, 109], [97, 98, 99, 100, 101, 102, 103, 104, 105, 106, 107, 108], [97, 32, 98], [97, 45], [95, 97], [97, 95, 49]]) hΩ rfl (hr.2 (by omega)).1 (hr.2 (by omega)).2; refine ⟨⟨hr.2 (by omega)⟩, _, hnm, ?_⟩; cbv) | (refine call_dr false hΩ 3 (hl1DrawName _ (by omega) (by omega)) rfl rfl rfl (fun q x q1 q2 ⟨r, hx⟩ => ?_); subst hx; cbv) | (exact ⟨_, _, .same, .same, ⟨_, by omega, by omega, rfl, _, rfl⟩, rfl⟩))
theorem d_l1Version {bs : List A} (hb : Src bs) (p : Int) (h0 : 0 ≤ p) (h1 : p + 5 ≤ 1099511627776) : XCtr PP n_spec_l1Version [src bs p] (DR bs p 5 [] fun x => ∃ v : Ver, x = v.enc) := by
  obtain ⟨Ω, hΩ⟩ : ∃ Ω, Ω = std := ⟨_, rfl⟩
  have hN := fun p n a b c => d_l1Next hb p n a b c
  have hP := fun p ns a b c d => d_l1Pick hb p ns a b c d
  have htab := tab
  have hmo := hmo
  refine XCtr.walkO tab hΩ 3 fn_spec_l1Version rfl rfl ?_
  generalize PP = P at *
  cbv
  repeat' (first | (refine call_dr false hΩ 3 (hN _ _ (by omega) (by omega) (by omega)) rfl rfl rfl (fun q x q1 q2 ⟨r, hx, hr⟩ => ?_); subst hx; cbv) | (refine call_pick (ns := [0, 0, _]) hΩ (hP _ _ (by omega) (by omega) (Nat.zero_lt_succ _) (Nat.le_of_ble_eq_true rfl)) rfl rfl rfl rfl (by decide) (fun q n q1 q2 hn => ?_); cbv) | (refine call_pick (ns := [0, 0, 0, _]) hΩ (hP _ _ (by omega) (by omega) (Nat.zero_lt_succ _) (Nat.le_of_ble_eq_true rfl)) rfl rfl rfl rfl (by decide) (fun q n q1 q2 hn => ?_); cbv) | (exact ⟨_, _, .same, .same, ⟨_, by omega, by omega, rfl, ⟨_, _, _⟩, rfl⟩, rfl⟩))
theorem d_l1BentVersion {bs : List A} (hb : Src bs) (p : Int) (h0 : 0 ≤ p) (h1 : p + 7 ≤ 1099511627776) : XCtr PP n_spec_l1BentVersion [src bs p] (DR bs p 7 [] fun x => ∃ v : Ver, x = v.enc) := by
  obtain ⟨Ω, hΩ⟩ : ∃ Ω, Ω = std := ⟨_, rfl⟩
  have hN := fun p n a b c => d_l1Next hb p n a b c
  have hP := fun p ns a b c d => d_l1Pick hb p ns a b c d
  have hl1Version := fun p a b => d_l1Version hb p a b
  have htab := tab
  have hmo := hmo
  refine XCtr.walkO tab hΩ 3 fn_spec_l1BentVersion rfl rfl ?_
  generalize PP = P at *
  cbv
  repeat' (first | (refine br (fun h => ?_) (fun h => ?_) <;> cbv) | (refine call_dr false hΩ 3 (hl1Version _ (by omega) (by omega)) rfl rfl rfl (fun q x q1 q2 ⟨r, hx⟩ => ?_); obtain ⟨ra, rb, rc⟩ := r; subst hx; cbv) | (refine call_dr false hΩ 3 (hN _ _ (by omega) (by omega) (by omega)) rfl rfl rfl (fun q x q1 q2 ⟨r, hx, hr⟩ => ?_); subst hx; cbv) | (refine call_pick (ns := [-1, 999, 1000]) hΩ (hP _ _ (by omega) (by omega) (Nat.zero_lt_succ _) (Nat.le_of_ble_eq_true rfl)) rfl rfl rfl rfl (by decide) (fun q n q1 q2 hn => ?_); cbv) | (refine call_pick (ns := [-1, 999, 1000, 4611686018427387904]) hΩ (hP _ _ (by omega) (by omega) (Nat.zero_lt_succ _) (Nat.le_of_ble_eq_true rfl)) rfl rfl rfl rfl (by decide) (fun q n q1 q2 hn => ?_); cbv) | (exact ⟨_, _, .same, .same, ⟨_, by omega, by omega, rfl, ⟨_, _, _⟩, rfl⟩, rfl⟩))
theorem d_AnyTerm (n : List UInt8) : PCtr PP n_spec_AnyTerm [str n] (inTop n).enc := by
  obtain ⟨Ω, hΩ⟩ : ∃ Ω, Ω = std := ⟨_, rfl⟩
  have hT := c_specTop
  have htab := tab
  refine PCtr.walk tab hΩ fn_spec_AnyTerm rfl ?_
  generalize PP = P at *
  cbv
  refine call_pure hΩ 3 hT rfl (fits _) rfl rfl ?_
  cbv
  exact .same
theorem d_l1Term {bs : List A} (hb : Src bs) (p : Int) (h0 : 0 ≤ p) (h1 : p + 9 ≤ 1099511627776) : XCtr PP n_spec_l1Term [src bs p] (DR bs p 9 [] fun x => ∃ t : Trm, x = t.enc) := by
  obtain ⟨Ω, hΩ⟩ : ∃ Ω, Ω = std := ⟨_, rfl⟩
  have hA := d_AnyTerm
  have hN := fun p n a b c => d_l1Next hb p n a b c
  have hC := fun p n a b c => d_l1Chance hb p n a b c
  have hl1DrawName := fun p a b => d_l1DrawName hb p a b
  have hl1Version := fun p a b => d_l1Version hb p a b
  have htab := tab
  have hmo := hmo
  refine XCtr.walkO tab hΩ 3 fn_spec_l1Term rfl rfl ?_
  generalize PP = P at *
  cbv
  repeat' (first | (refine br (fun h => ?_) (fun h => ?_) <;> cbv) | (refine call_dr false hΩ 3 (hC _ _ (by omega) (by omega) (by omega)) rfl rfl rfl (fun q x q1 q2 ⟨r, hx⟩ => ?_); subst hx; cbv) | (refine call_dr false hΩ 3 (hl1DrawName _ (by omega) (by omega)) rfl rfl rfl (fun q x q1 q2 ⟨r, hx⟩ => ?_); subst hx; cbv) | (refine call_dr false hΩ 3 (hl1Version _ (by omega) (by omega)) rfl rfl rfl (fun q x q1 q2 ⟨r, hx⟩ => ?_); obtain ⟨ra, rb, rc⟩ := r; subst hx; cbv) | (refine call_pure hΩ 3 (hA _) rfl (fits _) rfl rfl ?_; cbv) | (refine ⟨VC_lent htab hΩ hmo [0, 1, 2, 3] [4, 5, 6, 7] [8, 9] [2] [3] (by kernel_rfl) ?_⟩; cbv; intro vs; cbv) | (refine call_dr false hΩ 3 (hN _ _ (by omega) (by omega) (by omega)) rfl rfl rfl (fun q x q1 q2 ⟨r, hx, hr⟩ => ?_); subst hx; cbv) | (exact ⟨_, _, .same, .same, ⟨_, by omega, by omega, rfl, ⟨_, ⟨_, _, _⟩, ⟨_, _, _⟩⟩, rfl⟩, rfl⟩))
theorem d_l1BentTerm {bs : List A} (hb : Src bs) (p : Int) (h0 : 0 ≤ p) (h1 : p + 17 ≤ 1099511627776) : XCtr PP n_spec_l1BentTerm [src bs p] (DR bs p 17 [] fun x => ∃ t : Trm, x = t.enc) := by
  obtain ⟨Ω, hΩ⟩ : ∃ Ω, Ω = std := ⟨_, rfl⟩
  have hN := fun p n a b c => d_l1Next hb p n a b c
  have hl1BentName := fun p a b => d_l1BentName hb p a b
  have hl1BentVersion := fun p a b => d_l1BentVersion hb p a b
  have hl1Term := fun p a b => d_l1Term hb p a b
  have htab := tab
  have hmo := hmo
  refine XCtr.walkO tab hΩ 3 fn_spec_l1BentTerm rfl rfl ?_
  generalize PP = P at *
  cbv
  repeat' (first | (refine br (fun h => ?_) (fun h => ?_) <;> cbv) | (refine call_dr false hΩ 3 (hN _ _ (by omega) (by omega) (by omega)) rfl rfl rfl (fun q x q1 q2 ⟨r, hx, hr⟩ => ?_); subst hx; cbv) | (refine call_dr false hΩ 3 (hl1BentName _ (by omega) (by omega)) rfl rfl rfl (fun q x q1 q2 ⟨r, hx⟩ => ?_); subst hx; cbv) | (refine call_dr false hΩ 3 (hl1BentVersion _ (by omega) (by omega)) rfl rfl rfl (fun q x q1 q2 ⟨r, hx⟩ => ?_); obtain ⟨ra, rb, rc⟩ := r; subst hx; cbv) | (refine call_dr false hΩ 3 (hl1Term _ (by omega) (by omega)) rfl rfl rfl (fun q x q1 q2 ⟨r, hx⟩ => ?_); obtain ⟨rn, ⟨ra, rb, rc⟩, ⟨rd, re, rf⟩⟩ := r; subst hx; cbv) | (exact ⟨_, _, .same, .same, ⟨_, by omega, by omega, rfl, ⟨_, ⟨_, _, _⟩, ⟨_, _, _⟩⟩, rfl⟩, rfl⟩))
end Go.Proofs.YtfmcncflooechaaGreatDoor

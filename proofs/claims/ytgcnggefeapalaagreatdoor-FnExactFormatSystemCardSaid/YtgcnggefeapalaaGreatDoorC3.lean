/- Calls that are handed own data for good. Plain theorems, no condition. -/
import Derived.Test.YtgcnggefeapalaaGreatDoorC2
import Derived.Test.YtgcnggefeapalaaGreatDoorProg
import Derived.Laws.StructEq
set_option linter.unusedVariables false
set_option linter.unusedSimpArgs false
namespace Go.Fw
/-- A contract of a function that is handed own data for good: what comes back may hold them. -/
structure ECtr (P : Program) (g : Nat) (args : List A) (x : A) : Prop where
  enter : Enter P g
  run : ∀ (w : World) (G : Nat → Prop) (vs : List Value) (F : List Nat), GoodG P w G → F.Nodup → (∀ b ∈ F, ¬ G b) → RelL w G args vs F → Calls P g vs.toArray w (fun e w' => ∃ v Fx, e = .returned v ∧
    (w'.os = w.os ∧ w'.tape = w.tape ∧ w'.output = w.output ∧ w.heap.size ≤ w'.heap.size ∧ ∀ b, b < w.heap.size → b ∉ F → w'.heap[b]? = w.heap[b]?) ∧
    Fx.Nodup ∧ (∀ b ∈ Fx, b ∈ F ∨ w.heap.size ≤ b) ∧ Rel w' (fun b => (G b ∨ b ∈ F ∨ (w.heap.size ≤ b ∧ b < w'.heap.size)) ∧ b ∉ Fx) x v Fx)
def entryE (Ω : Opq) (k N : Nat) (xs : List A) : State := ⟨entryT 0 (rootO.rootOL Ω k ⟨[], N, []⟩ xs).1, N, (rootO.rootOL Ω k ⟨[], N, []⟩ xs).2.rows⟩
section
variable {P : Program} {T : Nat → Option TI} {S : State} {Ω : Opq}
theorem ECtr.walk (hT : TabOK P T) (hΩ : Ω = std) (k : Nat) {g : Nat} {c : Code} {N : Nat} {rs : List ResultVar} {xs : List A} {x : A} (hf : FnAt P g c N rs) (hN : Nat.ble xs.length N = true)
    (hno : (rootO.rootOL Ω k ⟨[], N, []⟩ xs).1.all noOwn = true) (h : vC Ω P T c (entryE Ω k N xs) (outV Ω T rs x)) : ECtr P g xs x := by
  subst hΩ
  have hroot := rootOL_std (rootO_std k)
  unfold entryE at h
  rw [hroot] at h hno
  have hN := Nat.le_of_ble_eq_true hN
  obtain ⟨hen, fn, h1, h2, h3, h4⟩ := hf
  refine ⟨hen, fun w G vs F hG hFnd hFG hl => ?_⟩
  have hlen := hl.length
  have hFlt := hl.lt
  refine calls_of_wp h1 h2 ?_
  generalize htm : vs.toArray ++ Array.replicate (fn.ntmps - vs.toArray.size) undef = tm
  have htms : tm.size = N := by rw [← htm]; simp; omega
  have hinv0 : Inv (P := P) ⟨w, G, (· ∈ F), fun _ => undef⟩ G (fun _ => (none, [])) ⟨[], N, []⟩ tm w := by
    refine ⟨fun _ _ _ => rfl, rfl, rfl, rfl, Nat.le_refl _, htms, fun _ h => h, fun _ h => .inl h, hG, ?_, ?_, ?_, ?_, fun i => .un⟩
    · intro r row hr; simp [rowAt] at hr
    · intro r row hr; simp [rowAt] at hr
    · intro r row hr; simp [rowAt] at hr
    · intro r r' row row' hr; simp [rowAt] at hr
  have hres0 : Res (P := P) ⟨w, G, (· ∈ F), fun _ => undef⟩ G (fun _ => (none, [])) (State.rows ⟨[], N, []⟩) (F ++ []) := by
    rw [List.append_nil]
    exact ⟨hFnd, fun b hb => ⟨hFG b hb, .inl hb⟩, fun r row hr => by simp [rowAt] at hr⟩
  obtain ⟨gs1, r1, r2⟩ := rootL_ok (rootA_ok k) xs ⟨[], N, []⟩ _ vs F [] hinv0 hres0 (fun b hb => hFlt b (by simpa using hb)) hl hno
  have hzl : (rootA.rootL k ⟨[], N, []⟩ xs).1.length = xs.length := by rw [← r2.length, hlen]
  have hi1 := r1.inv
  have hinv : Inv (P := P) ⟨w, G, (· ∈ F), fun _ => undef⟩ G gs1 ⟨entryT 0 (rootA.rootL k ⟨[], N, []⟩ xs).1, N, (rootA.rootL k ⟨[], N, []⟩ xs).2.rows⟩ tm w := by
    refine ⟨hi1.keep, hi1.os, hi1.tape, hi1.output, hi1.size, htms, hi1.gsub, hi1.gnew, hi1.glt, hi1.row, hi1.nod, hi1.own, hi1.dis, fun i => ?_⟩
    show TRel w G (rootA.rootL k ⟨[], N, []⟩ xs).2.rows gs1 (lk (entryT 0 _) i) _ []
    rw [lk_entryT, if_pos (Nat.zero_le _), Nat.sub_zero]
    by_cases hi : i < xs.length
    · unfold vat
      rw [if_pos (by rw [htms]; omega)]
      have := r2.get' i (by rw [hzl]; exact hi)
      have e : tm.getD i undef = vs.getD i undef := by
        rw [← htm, Array.getD_eq_getD_getElem?, Array.getElem?_append_left (by simp; omega)]
        simp
      rw [e]; exact this
    · rw [List.getD_eq_getElem?_getD, List.getElem?_eq_none (by omega)]
      exact .un
  refine wp_mono ((VC.mono (vstart hT rfl h) fun e S' h => outV_ok hT h) ⟨w, G, (· ∈ F), fun _ => undef⟩ { tmps := tm, defers := [] } w ⟨rfl, G, _, hinv⟩) ?_
  rintro e a' w' ⟨S', ⟨hd, G', gs', hi'⟩, hK⟩
  have fin : Outs P rs x S' → a'.defers = [] ∧ ∃ v, (results fn a'.tmps).run P w' = .ok v w' ∧ (∃ v_1 Fx, Ending.returned v = .returned v_1 ∧
      (w'.os = w.os ∧ w'.tape = w.tape ∧ w'.output = w.output ∧ w.heap.size ≤ w'.heap.size ∧ ∀ b, b < w.heap.size → b ∉ F → w'.heap[b]? = w.heap[b]?) ∧
      Fx.Nodup ∧ (∀ b ∈ Fx, b ∈ F ∨ w.heap.size ≤ b) ∧ Rel w' (fun b => (G b ∨ b ∈ F ∨ (w.heap.size ≤ b ∧ b < w'.heap.size)) ∧ b ∉ Fx) x v_1 Fx) := by
    intro ho
    refine ⟨hd, ?_⟩
    obtain ⟨vs', zs, Fx, k', g1, g2, g3, g4, g5⟩ := ho _ _ _ _ _ hi'
    refine ⟨oneV vs', h4 _ _ _ g1, _, Fx, rfl, ⟨hi'.os, hi'.tape, hi'.output, hi'.size, fun b hb hF => hi'.keep b hb hF⟩, g3, fun b hb => (g4 b hb).2, ?_⟩
    refine (fitA_rel k' _ _ _ _ g5 (oneA_rel g2)).move_ (fun b hb => ⟨⟨?_, fun hF => (g4 b hF).1 hb⟩, rfl⟩) (fun _ _ => rfl)
    rcases hi'.gnew b hb with h | h | h
    · exact .inl h
    · exact .inr (.inl h)
    · exact .inr (.inr ⟨h, hi'.glt b hb⟩)
  cases e with
  | normal => exact fin hK
  | ret => exact fin hK
  | _ => exact hK.elim
theorem eat_end {E : Env P} {G : Nat → Prop} {gs : Gh} {S1 : State} {tmps : Array Value} {w w' : World} {F Fx : List Nat} {x : A} {v : Value} (k : Nat) (hi1 : Inv E G gs S1 tmps w) (hR : Res E G gs S1.rows F) (hRlt : ∀ b ∈ F, b < w.heap.size)
    (hos : w'.os = w.os) (htape : w'.tape = w.tape) (hout : w'.output = w.output) (hsize : w.heap.size ≤ w'.heap.size) (hold : ∀ b, b < w.heap.size → b ∉ F → w'.heap[b]? = w.heap[b]?)
    (hnd : Fx.Nodup) (hmem : ∀ b ∈ Fx, b ∈ F ∨ w.heap.size ≤ b) (hx : Rel w' (fun b => (G b ∨ b ∈ F ∨ (w.heap.size ≤ b ∧ b < w'.heap.size)) ∧ b ∉ Fx) x v Fx) (hno : noOwn (rootA k S1 x).1 = true) :
    ∃ gs2, Inv E (fun b => (G b ∨ b ∈ F ∨ (w.heap.size ≤ b ∧ b < w'.heap.size)) ∧ b ∉ Fx) gs2 (rootA k S1 x).2 tmps w' ∧ TRel w' (fun b => (G b ∨ b ∈ F ∨ (w.heap.size ≤ b ∧ b < w'.heap.size)) ∧ b ∉ Fx) (rootA k S1 x).2.rows gs2 (rootA k S1 x).1 v [] := by
  have hrow : ∀ r row, rowAt S1.rows r = some row → ∀ b ∈ gs.all r, w'.heap[b]? = w.heap[b]? ∧ b ∉ Fx := fun r row hr b hb => by
    have h1 := hi1.block_lt hr b hb
    have h2 := hR.dis r row hr b hb
    refine ⟨hold b h1 h2, fun hF => ?_⟩
    rcases hmem b hF with h | h
    · exact h2 h
    · omega
  have hGF : ∀ b, G b → b ∉ Fx := fun b h hF => by
    have := hi1.glt b h
    rcases hmem b hF with h2 | h2
    · exact (hR.own b h2).1 h
    · omega
  have hG : ∀ b, G b → ((G b ∨ b ∈ F ∨ (w.heap.size ≤ b ∧ b < w'.heap.size)) ∧ b ∉ Fx) ∧ w'.heap[b]? = w.heap[b]? := fun b h => ⟨⟨.inl h, hGF b h⟩, hold b (hi1.glt b h) fun hF => (hR.own b hF).1 h⟩
  have hle : ∀ r, RowLe w w' S1.rows S1.rows gs gs r := fun r => RowLe.refl_of fun row h => ⟨h, rfl, fun b hob => (hrow r row h b (by simp [Gh.all, hob])).1⟩
  have hi' : Inv E (fun b => (G b ∨ b ∈ F ∨ (w.heap.size ≤ b ∧ b < w'.heap.size)) ∧ b ∉ Fx) gs S1 tmps w' := by
    refine ⟨fun b h hf => ?_, hos.trans hi1.os, htape.trans hi1.tape, hout.trans hi1.output, Nat.le_trans hi1.size hsize, hi1.sz, fun b h => ⟨.inl (hi1.gsub b h), hGF b (hi1.gsub b h)⟩, fun b h => ?_, hi1.glt.move (fun b h => (hG b h).1) (fun b h => (hG b h).2) (fun b h => ?_), fun r row hr => ?_,
      hi1.nod, fun r row hr b hb => ?_, hi1.dis, fun i => (hi1.tmp i).step hG hle (by simp)⟩
    · rw [hold b (Nat.lt_of_lt_of_le h hi1.size) fun hF => ?_]
      · exact hi1.keep b h hf
      · rcases (hR.own b hF).2 with h2 | h2
        · exact hf h2
        · omega
    · rcases h.1 with h | h | h
      · exact hi1.gnew b h
      · exact .inr (hR.own b h).2
      · exact .inr (.inr (Nat.le_trans hi1.size h.1))
    · rcases h.1 with h | h | h
      · exact Nat.lt_of_lt_of_le (hi1.glt b h) hsize
      · exact Nat.lt_of_lt_of_le (hRlt b h) hsize
      · exact h.2
    · exact (hi1.row r row hr).step hG hle fun c hc => (hrow r row hr c hc).1
    · obtain ⟨g1, g2⟩ := hi1.own r row hr b hb
      refine ⟨fun h => ?_, g2⟩
      have := hi1.block_lt hr b hb
      rcases h.1 with h | h | h
      · exact g1 h
      · exact hR.dis r row hr b hb h
      · omega
  have hR' : Res E (fun b => (G b ∨ b ∈ F ∨ (w.heap.size ≤ b ∧ b < w'.heap.size)) ∧ b ∉ Fx) gs S1.rows (Fx ++ []) := by
    rw [List.append_nil]
    refine ⟨hnd, fun b hb' => ⟨fun h => h.2 hb', ?_⟩, fun r row hr b hb1 hb2 => (hrow r row hr b hb1).2 hb2⟩
    rcases hmem b hb' with h2 | h2
    · exact (hR.own b h2).2
    · exact .inr (Nat.le_trans hi1.size h2)
  obtain ⟨gs2, q1, q2⟩ := rootA_ok k S1 gs x v Fx [] hi' hR' (fun b hb' => hx.lt b (by simpa using hb')) hx hno
  exact ⟨gs2, q1.inv, q2⟩
theorem mapO_relG {f : A → Option A} {w : World} {G G' : Nat → Prop} {gs : Gh} {rows : List (Option Row)} (hf : ∀ x v F y, (∀ b ∈ F, G' b) → TRel w G rows gs x v F → f x = some y → Rel w G' y v []) : ∀ {xs : List A} {vs : List Value} {F : List Nat} {ys : List A},
    (∀ b ∈ F, G' b) → TRelL w G rows gs xs vs F → mapO f xs = some ys → RelL w G' ys vs []
  | [], _, _, ys, _, h, hm => by
    cases h
    simp only [mapO, Option.some.injEq] at hm
    subst hm; exact .nil
  | x :: xs, _, _, ys, hF, h, hm => by
    cases h with
    | cons h hl =>
      simp only [mapO] at hm
      cases hx : f x with
      | none => rw [hx] at hm; simp at hm
      | some y =>
        rw [hx] at hm
        cases hxs : mapO f xs with
        | none => rw [hxs] at hm; simp at hm
        | some us =>
          rw [hxs] at hm
          simp only [Option.some.injEq] at hm
          subst hm
          exact .cons (F := []) (Fs := []) (hf _ _ _ _ (fun b hb => hF b (by simp [hb])) h hx) (mapO_relG hf (fun b hb => hF b (by simp [hb])) hl hxs)
theorem roO_relG {E : Env P} {G G' : Nat → Prop} {gs : Gh} {tmps : Array Value} {w : World} (hi : Inv E G gs S tmps w) (hGO : ∀ b, G b → G' b) (hrow : ∀ r row, rowAt S.rows r = some row → ∀ b ∈ gs.all r, G' b) :
    ∀ (k : Nat) (x : A) (v : Value) (F : List Nat) (y : A), (∀ b ∈ F, G' b) → TRel w G S.rows gs x v F → roO S k x = some y → Rel w G' y v [] := by
  intro k
  induction k with
  | zero => intro x v F y _ _ hy; simp [roO] at hy
  | succ k ih =>
    intro x v F y hF h hy
    have plain : ∀ {x : A} {v : Value}, TRel w G S.rows gs x v F → isData x = true → Rel w G' (Fw.frz x) v [] := fun h hd => (h.data hd).frz hGO hF
    cases x with
    | un => simp [roO] at hy
    | sc u =>
      simp only [roO, Option.some.injEq] at hy; subst hy
      have := plain h (isData_sc u); rwa [frz_sc] at this
    | nil =>
      simp only [roO, Option.some.injEq] at hy; subst hy
      have := plain h isData_nil; rwa [frz_nil] at this
    | sl o n xs =>
      cases o with
      | true =>
        simp only [roO, Option.some.injEq] at hy; subst hy
        have := plain h (isData_sl true n xs); rwa [frz_sl] at this
      | false =>
        simp only [roO, Option.some.injEq] at hy; subst hy
        exact (h.data (isData_sl false n xs)).noOwn (by simp [noOwn_sl]) ▸ (h.data (isData_sl false n xs)).move_ (fun b hb => ⟨hGO b hb, rfl⟩) (fun b hb => rfl)
    | rp xs =>
      simp only [roO, Option.some.injEq] at hy; subst hy
      exact (h.data (isData_rp xs)).noOwn (by simp [noOwn_rp]) ▸ (h.data (isData_rp xs)).move_ (fun b hb => ⟨hGO b hb, rfl⟩) (fun b hb => rfl)
    | bx xs =>
      simp only [roO, Option.some.injEq] at hy; subst hy
      have := plain h (isData_bx xs); rwa [frz_bx] at this
    | agg xs =>
      simp only [roO, Option.map_eq_some_iff] at hy
      obtain ⟨ys, h1, rfl⟩ := hy
      obtain ⟨cs, rfl, hl⟩ := agg_inv h
      have := Rel.agg (mapO_relG (G' := G') (fun x v F y hF hx hy => ih x v F y hF hx hy) hF hl h1)
      simpa using this
    | tup xs =>
      simp only [roO, Option.map_eq_some_iff] at hy
      obtain ⟨ys, h1, rfl⟩ := hy
      obtain ⟨cs, rfl, hl⟩ := tup_inv h
      have := Rel.tup (mapO_relG (G' := G') (fun x v F y hF hx hy => ih x v F y hF hx hy) hF hl h1)
      simpa using this
    | clo g xs =>
      simp only [roO, Option.map_eq_some_iff] at hy
      obtain ⟨ys, h1, rfl⟩ := hy
      cases h with
      | of h => cases h with | clo hl => exact .clo (mapO_relG (gs := gs) (rows := S.rows) (G' := G') (fun x v F y hF hx hy => ih x v F y hF hx hy) hF (.of hl) h1)
      | clo hl => exact .clo (mapO_relG (G' := G') (fun x v F y hF hx hy => ih x v F y hF hx hy) hF hl h1)
    | vw r off len =>
      simp only [roO] at hy
      cases hr : rowAt S.rows r with
      | none => simp [hr] at hy
      | some row =>
        simp only [hr] at hy
        split at hy
        · simp at hy
        · rename_i hlk
          simp only [Option.some.injEq] at hy
          subst hy
          rcases vw_inv h with ⟨row', kk, cap, cur, e, b, hr', hob, g1, g2, g3, g4, g5, g6, rfl⟩ | ⟨row', hr', hob, hxs, rfl, rfl, rfl⟩
          · rw [hr] at hr'
            obtain rfl := Option.some.inj hr'
            have hrr := hi.row r row hr
            rw [hob] at hrr
            obtain ⟨cur', e', cap', h1, h2, h3, h4, h5, h6, h7⟩ := hrr.ex
            rw [g2] at h1
            simp only [Option.some.injEq, Obj.cells.injEq] at h1
            obtain ⟨rfl, rfl, _⟩ := h1
            unfold CellsRel at h7
            rw [if_neg hlk] at h7
            obtain ⟨F1, F2, e1, _, k2⟩ := h7.take_ (off * row.n)
            obtain ⟨F3, F4, e2, k3, _⟩ := k2.take_ (len * row.n)
            rw [flat_drop off h5, flat_take len (fun y hy => h5 y (List.mem_of_mem_drop hy))] at k3
            have hle : (off + len) * row.n ≤ row.xs.length * row.n := Nat.mul_le_mul_right _ g1
            rw [Nat.add_mul] at hle
            rw [List.drop_take, List.take_take, Nat.min_eq_left (by omega)] at k3
            have k4 := RelL.frz k3 (G' := G') hGO (fun c hc => hrow r row hr c (by simp [Gh.all, e1, e2, hc]))
            rw [← flat_frz] at k4
            have hlen : len = (((row.xs.drop off).take len).map Fw.frz).length := by simp; omega
            have hw : ∀ y ∈ ((row.xs.drop off).take len).map Fw.frz, y.width = row.n := fun y hy => by
              obtain ⟨z, hz, rfl⟩ := List.mem_map.1 hy
              rw [width_frz]; exact h5 z (List.mem_of_mem_drop (List.mem_of_mem_take hz))
            have hold : G' b := hrow r row hr b (by simp [Gh.all, hob])
            refine .ro g2 hold hw hlen rfl ?_ (by omega) (by omega)
            rcases g6 with hk | hk
            · rw [hk]; exact k4
            · have h0 : len = 0 := by omega
              subst h0
              simpa using k4
          · rw [hr] at hr'
            obtain rfl := Option.some.inj hr'
            simpa using Rel.nils
    | pt r j o =>
      simp only [roO] at hy
      cases hr : rowAt S.rows r with
      | none => simp [hr] at hy
      | some row =>
        simp only [hr] at hy
        by_cases hjo : j < row.xs.length ∧ o ≤ row.n
        case neg => rw [if_neg hjo] at hy; simp at hy
        rw [if_pos hjo] at hy
        obtain ⟨row', b, hr', hb, rfl⟩ := pt_inv h
        rw [hr] at hr'
        obtain rfl := Option.some.inj hr'
        obtain ⟨b', hb', hrc⟩ := row_real hi hr (by omega)
        rw [hb] at hb'
        obtain rfl := Option.some.inj hb'
        obtain ⟨cur, e, cap, h1, h2, h3, h4, h5, h6, h7⟩ := hrc.ex
        have hz : row.xs[j]? = some (row.xs.getD j .un) := by simp [List.getD_eq_getElem?_getD, List.getElem?_eq_getElem hjo.1]
        generalize row.xs.getD j .un = x at hy hz
        have hw := h5 x (List.mem_of_getElem? hz)
        unfold A.width at hw
        have hseg := flat_seg h5 hz o (row.n - o) (by omega)
        have hxl : ((x.cells.drop o).take (row.n - o)) = x.cells.drop o := by rw [List.take_of_length_le (by simp; omega)]
        have hle : (j + 1) * row.n ≤ row.xs.length * row.n := Nat.mul_le_mul_right _ hjo.1
        rw [Nat.add_mul] at hle
        have hcur : ((cur.toList.take (row.xs.length * row.n)).drop (j * row.n + o)).take (row.n - o) = (cur.toList.drop (j * row.n + o)).take (row.n - o) := by
          rw [List.drop_take, List.take_take, Nat.min_eq_left (by omega)]
        have hold : G' b := hrow r row hr b (by simp [Gh.all, hb])
        have hlenx : (x.cells.drop o).length = row.n - o := by simp; omega
        obtain ⟨F1, F2, e1, _, k2⟩ := h7.t.take_ (j * row.n + o)
        obtain ⟨F3, F4, e2, k3, _⟩ := k2.take_ (row.n - o)
        rw [hseg, hxl, hcur] at k3
        by_cases hlk : row.lk = true
        · rw [if_pos hlk] at hy
          simp only [Option.map_eq_some_iff] at hy
          obtain ⟨ys, hm, rfl⟩ := hy
          have k4 := mapO_relG (G' := G') (fun x v F y hF hx hy => ih x v F y hF hx hy) (fun c hc => hrow r row hr c (by simp [Gh.all, e1, e2, hc])) k3 hm
          have hyl : ys.length = row.n - o := by rw [← k4.length, k3.length, hlenx]
          exact .rp h1 hold rfl (by rw [hyl]; exact k4)
        · rw [if_neg hlk] at hy
          simp only [Option.some.injEq] at hy
          subst hy
          unfold CellsRel at h7
          rw [if_neg hlk] at h7
          obtain ⟨F1', F2', e1', _, k2'⟩ := h7.take_ (j * row.n + o)
          obtain ⟨F3', F4', e2', k3', _⟩ := k2'.take_ (row.n - o)
          rw [hseg, hxl, hcur] at k3'
          have k4 := RelL.frz k3' (G' := G') hGO (fun c hc => hrow r row hr c (by simp [Gh.all, e1', e2', hc]))
          exact .rp h1 hold rfl (by rw [List.length_map, hlenx]; exact k4)

/-- One own row is handed over for good, all else is only read. -/
theorem CallOK_eat2 {g k r len : Nat} {row : Row} {rest ys0 ys : List A} {x : A} {K : A → State → Prop} (hc : ECtr P g (.sl true row.n row.xs :: ys) x) (hr : rowAt S.rows r = some row) (hlk : row.lk = false) (hlen : len = row.xs.length)
    (h1 : mapO (roO (S.turn r none) k) (rest.map (kill r)) = some ys0) (h2 : fitA.fitL k ys0 ys) (hxf : roFree x = true) (hno : noOwn (rootA k (S.turn r none) x).1 = true) (hK : K (rootA k (S.turn r none) x).1 (rootA k (S.turn r none) x).2) :
    CallOK P g (.vw r 0 len :: rest) S K := by
  refine ⟨hc.enter, fun E G gs tmps w vs hi hl => ?_⟩
  generalize hF0 : ([] : List Nat) = F0 at hl
  cases hl with
  | cons hv hl =>
    rename_i v0 Fa vs Fb
    have hFF : Fa = [] ∧ Fb = [] := by simpa using hF0.symm
    obtain ⟨rfl, rfl⟩ := hFF
    have hst1 : stash1 S (.vw r 0 len) = (0 = 0 ∧ len ≤ row.xs.length ∧ row.lk = false, .sl true row.n (row.xs.take len), S.turn r none, [r]) := by simp only [stash1, hr]
    obtain ⟨F, hst, hrel⟩ := stash1_ok (R := []) hi Res.nil hv (by rw [hst1]; exact ⟨rfl, by omega, hlk⟩)
    rw [hst1] at hst hrel
    rw [List.take_of_length_le (by omega)] at hrel
    rw [List.append_nil] at hst
    have hi1 : Inv E G gs (S.turn r none) tmps w := hst.inv
    have hR : Res E G gs (S.turn r none).rows F := hst.res
    have hlt : ∀ b ∈ F, b < w.heap.size := hst.lt (by simp)
    have hl' : TRelL w G (S.turn r none).rows gs (rest.map (kill r)) vs [] := by
      have := hst.stepL rest vs hl
      exact this
    have hys := fitL_rel (fun x y v F => fitA_rel k x y v F) ys0 ys vs [] h2 (mapO_relG (G' := fun b => b < w.heap.size ∧ b ∉ F) (fun x v F y hF hx hy => roO_relG hi1 (fun b hb => ⟨hi1.glt b hb, fun hb2 => (hR.own b hb2).1 hb⟩) (fun r row hr b hb => ⟨hi1.block_lt hr b hb, hR.dis r row hr b hb⟩) k x v F y hF hx hy) (by simp) hl' h1)
    have hargs : RelL w (fun b => b < w.heap.size ∧ b ∉ F) (.sl true row.n row.xs :: ys) (v0 :: vs) F := by
      have := RelL.cons (hrel.move_ (w' := w) (G' := fun b => b < w.heap.size ∧ b ∉ F) (fun b hb => ⟨⟨hi1.glt b hb, fun hb2 => (hR.own b hb2).1 hb⟩, rfl⟩) (fun _ _ => rfl)) hys
      simpa using this
    refine Calls.mono (hc.run w (fun b => b < w.heap.size ∧ b ∉ F) (v0 :: vs) F (hi1.glt.move (fun b hb => ⟨hi1.glt b hb, fun hb2 => (hR.own b hb2).1 hb⟩) (fun _ _ => rfl) fun b hb => hb.1) hR.nod (fun b hb h => h.2 hb) hargs) ?_
    rintro e w' ⟨v, Fx, rfl, ⟨hos, htape, hout, hsize, hold⟩, hnd, hmem, hx⟩
    obtain ⟨gs2, q1, q2⟩ := eat_end k hi1 hR hlt hos htape hout hsize hold hnd hmem (hx.anyG hxf _) hno
    exact ⟨v, _, _, _, gs2, rfl, hK, q1, q2⟩
theorem call_eat2 (hΩ : Ω = std) (k : Nat) {g r len : Nat} {row : Row} {rest ys0 ys : List A} {x : A} {K : A → State → Prop} (hc : ECtr P g (.sl true row.n row.xs :: ys) x) (hr : rowAt S.rows r = some row) (hlk : row.lk = false) (hlen : len = row.xs.length)
    (h1 : mapO (roO (S.turn r none) k) (rest.map (kill r)) = some ys0) (h2 : fitA.fitL k ys0 ys) (hxf : roFree x = true) (hno : noOwn (rootO Ω k (S.turn r none) x).1 = true) (hK : K (rootO Ω k (S.turn r none) x).1 (rootO Ω k (S.turn r none) x).2) :
    CallX P g (.vw r 0 len :: rest) S K := by
  subst hΩ
  rw [rootO_std] at hno hK
  exact ⟨CallOK_eat2 hc hr hlk hlen h1 h2 hxf hno hK⟩
end
section
variable {P : Program} {E : Env P} {G : Nat → Prop} {gs : Gh} {S : State} {w : World} {tmps : Array Value}
end
end Go.Fw

/- The table of the types that the walks ask for. Plain theorems, no condition. -/
namespace Go.Proofs.YtgcnggefeapalaaGreatDoor
open Go.Fw
def T : Nat → Option TI
  | 2 => some ⟨1, 8, none, false, false, false, [], (some (.int .i64 0)), (some .i64), none⟩
  | 3 => some ⟨1, 8, none, false, false, false, [], (some (.int .i64 0)), (some .i64), none⟩
  | 4 => some ⟨1, 1, none, false, false, true, [], (some (.bool false)), none, none⟩
  | 5 => some ⟨1, 1, none, false, false, false, [], (some (.int .u8 0)), (some .u8), none⟩
  | 6 => some ⟨1, 1, none, false, false, false, [], (some (.int .u8 0)), (some .u8), none⟩
  | 7 => some ⟨4, 24, none, true, false, false, [(0, 1, false), (1, 1, false), (2, 1, false), (3, 1, false)], (some (.agg #[(.int .i64 0), (.int .i64 0), (.bool false), (.int .u8 0)])), none, none⟩
  | 8 => some ⟨4, 24, none, true, false, false, [(0, 1, false), (1, 1, false), (2, 1, false), (3, 1, false)], (some (.agg #[(.int .i64 0), (.int .i64 0), (.bool false), (.int .u8 0)])), none, none⟩
  | 9 => some ⟨1, 16, none, false, true, false, [], (some (.string ⟨#[]⟩)), none, none⟩
  | 10 => some ⟨1, 16, none, false, true, false, [], (some (.string ⟨#[]⟩)), none, none⟩
  | 11 => some ⟨1, 16, none, false, true, false, [], (some (.string ⟨#[]⟩)), none, none⟩
  | 12 => some ⟨1, 8, none, false, false, false, [], (some (.int .u64 0)), (some .u64), none⟩
  | 13 => some ⟨2, 24, none, true, false, false, [(0, 1, false), (1, 1, false)], (some (.agg #[(.string ⟨#[]⟩), (.int .u64 0)])), none, none⟩
  | 14 => some ⟨2, 24, none, true, false, false, [(0, 1, false), (1, 1, false)], (some (.agg #[(.string ⟨#[]⟩), (.int .u64 0)])), none, none⟩
  | 15 => some ⟨1, 8, none, false, false, false, [], (some (.pointer none)), none, none⟩
  | 16 => some ⟨1, 8, none, false, false, false, [], (some (.pointer none)), none, none⟩
  | 17 => some ⟨1, 8, none, false, false, false, [], (some (.pointer none)), none, none⟩
  | 18 => some ⟨1, 8, none, true, false, false, [(0, 1, false)], (some (.agg #[(.pointer none)])), none, none⟩
  | 19 => some ⟨1, 8, none, true, false, false, [(0, 1, false)], (some (.agg #[(.pointer none)])), none, none⟩
  | 21 => some ⟨1, 4, none, false, false, false, [], (some (.int .i32 0)), (some .i32), none⟩
  | 22 => some ⟨1, 24, (some 98), false, false, false, [], (some (.slice none 0 0)), none, none⟩
  | 23 => some ⟨1, 24, (some 149), false, false, false, [], (some (.slice none 0 0)), none, none⟩
  | 24 => some ⟨5, 56, none, true, false, false, [(0, 1, false), (1, 1, false), (2, 1, false), (3, 1, false), (4, 1, false)], (some (.agg #[(.slice none 0 0), (.int .i64 0), (.int .i64 0), (.int .i64 0), (.bool false)])), none, none⟩
  | 25 => some ⟨5, 56, none, true, false, false, [(0, 1, false), (1, 1, false), (2, 1, false), (3, 1, false), (4, 1, false)], (some (.agg #[(.slice none 0 0), (.int .i64 0), (.int .i64 0), (.int .i64 0), (.bool false)])), none, none⟩
  | 26 => some ⟨6, 80, none, true, false, false, [(0, 1, false), (1, 5, true)], (some (.agg #[(.slice none 0 0), (.slice none 0 0), (.int .i64 0), (.int .i64 0), (.int .i64 0), (.bool false)])), none, none⟩
  | 27 => some ⟨6, 80, none, true, false, false, [(0, 1, false), (1, 5, true)], (some (.agg #[(.slice none 0 0), (.slice none 0 0), (.int .i64 0), (.int .i64 0), (.int .i64 0), (.bool false)])), none, none⟩
  | 30 => some ⟨1, 24, (some 79), false, false, false, [], (some (.slice none 0 0)), none, none⟩
  | 31 => some ⟨1, 24, (some 83), false, false, false, [], (some (.slice none 0 0)), none, none⟩
  | 32 => some ⟨5, 56, none, true, false, false, [(0, 1, false), (1, 1, false), (2, 1, false), (3, 1, false), (4, 1, false)], (some (.agg #[(.slice none 0 0), (.int .i64 0), (.int .i64 0), (.int .i64 0), (.bool false)])), none, none⟩
  | 33 => some ⟨5, 56, none, true, false, false, [(0, 1, false), (1, 1, false), (2, 1, false), (3, 1, false), (4, 1, false)], (some (.agg #[(.slice none 0 0), (.int .i64 0), (.int .i64 0), (.int .i64 0), (.bool false)])), none, none⟩
  | 34 => some ⟨6, 80, none, true, false, false, [(0, 1, false), (1, 5, true)], (some (.agg #[(.slice none 0 0), (.slice none 0 0), (.int .i64 0), (.int .i64 0), (.int .i64 0), (.bool false)])), none, none⟩
  | 35 => some ⟨6, 80, none, true, false, false, [(0, 1, false), (1, 5, true)], (some (.agg #[(.slice none 0 0), (.slice none 0 0), (.int .i64 0), (.int .i64 0), (.int .i64 0), (.bool false)])), none, none⟩
  | 39 => some ⟨1, 24, (some 72), false, false, false, [], (some (.slice none 0 0)), none, none⟩
  | 43 => some ⟨3, 24, none, true, false, false, [(0, 1, false), (1, 1, false), (2, 1, false)], (some (.agg #[(.int .i64 0), (.int .i64 0), (.int .i64 0)])), none, none⟩
  | 44 => some ⟨3, 24, none, true, false, false, [(0, 1, false), (1, 1, false), (2, 1, false)], (some (.agg #[(.int .i64 0), (.int .i64 0), (.int .i64 0)])), none, none⟩
  | 54 => some ⟨1, 24, (some 114), false, false, false, [], (some (.slice none 0 0)), none, none⟩
  | 57 => some ⟨1, 24, (some 71), false, false, false, [], (some (.slice none 0 0)), none, none⟩
  | 64 => some ⟨1, 8, none, false, false, false, [], (some (.pointer none)), none, none⟩
  | 68 => some ⟨3, 24, none, true, false, false, [(0, 1, false), (1, 1, false), (2, 1, false)], (some (.agg #[(.int .i64 0), (.int .i64 0), (.int .i64 0)])), none, none⟩
  | 69 => some ⟨3, 24, none, true, false, false, [(0, 1, false), (1, 1, false), (2, 1, false)], (some (.agg #[(.int .i64 0), (.int .i64 0), (.int .i64 0)])), none, none⟩
  | 70 => some ⟨7, 64, none, true, false, false, [(0, 1, false), (1, 3, true), (4, 3, true)], (some (.agg #[(.string ⟨#[]⟩), (.int .i64 0), (.int .i64 0), (.int .i64 0), (.int .i64 0), (.int .i64 0), (.int .i64 0)])), none, none⟩
  | 71 => some ⟨7, 64, none, true, false, false, [(0, 1, false), (1, 3, true), (4, 3, true)], (some (.agg #[(.string ⟨#[]⟩), (.int .i64 0), (.int .i64 0), (.int .i64 0), (.int .i64 0), (.int .i64 0), (.int .i64 0)])), none, none⟩
  | 72 => some ⟨1, 24, (some 2), false, false, false, [], (some (.slice none 0 0)), none, none⟩
  | 73 => some ⟨3, 40, none, true, false, false, [(0, 1, false), (1, 1, false), (2, 1, false)], (some (.agg #[(.int .i64 0), (.int .i64 0), (.slice none 0 0)])), none, none⟩
  | 74 => some ⟨3, 40, none, true, false, false, [(0, 1, false), (1, 1, false), (2, 1, false)], (some (.agg #[(.int .i64 0), (.int .i64 0), (.slice none 0 0)])), none, none⟩
  | 76 => some ⟨1, 24, (some 9), false, false, false, [], (some (.slice none 0 0)), none, none⟩
  | 77 => some ⟨1, 24, (some 57), false, false, false, [], (some (.slice none 0 0)), none, none⟩
  | 78 => some ⟨8, 120, none, true, false, false, [(0, 1, false), (1, 3, true), (4, 1, false), (5, 1, false), (6, 1, false), (7, 1, false)], (some (.agg #[(.string ⟨#[]⟩), (.int .i64 0), (.int .i64 0), (.int .i64 0), (.int .i64 0), (.slice none 0 0), (.slice none 0 0), (.slice none 0 0)])), none, none⟩
  | 79 => some ⟨8, 120, none, true, false, false, [(0, 1, false), (1, 3, true), (4, 1, false), (5, 1, false), (6, 1, false), (7, 1, false)], (some (.agg #[(.string ⟨#[]⟩), (.int .i64 0), (.int .i64 0), (.int .i64 0), (.int .i64 0), (.slice none 0 0), (.slice none 0 0), (.slice none 0 0)])), none, none⟩
  | 81 => some ⟨1, 24, (some 5), false, false, false, [], (some (.slice none 0 0)), none, none⟩
  | 82 => some ⟨2, 40, none, true, false, false, [(0, 1, false), (1, 1, false)], (some (.agg #[(.string ⟨#[]⟩), (.slice none 0 0)])), none, none⟩
  | 83 => some ⟨2, 40, none, true, false, false, [(0, 1, false), (1, 1, false)], (some (.agg #[(.string ⟨#[]⟩), (.slice none 0 0)])), none, none⟩
  | 95 => some ⟨3, 24, none, true, false, false, [(0, 1, false), (1, 1, false), (2, 1, false)], (some (.agg #[(.int .i64 0), (.int .i64 0), (.int .i64 0)])), none, none⟩
  | 96 => some ⟨1, 24, (some 54), false, false, false, [], (some (.slice none 0 0)), none, none⟩
  | 97 => some ⟨8, 120, none, true, false, false, [(0, 1, false), (1, 3, true), (4, 1, false), (5, 1, false), (6, 1, false), (7, 1, false)], (some (.agg #[(.string ⟨#[]⟩), (.int .i64 0), (.int .i64 0), (.int .i64 0), (.int .i64 0), (.slice none 0 0), (.slice none 0 0), (.slice none 0 0)])), none, none⟩
  | 98 => some ⟨8, 120, none, true, false, false, [(0, 1, false), (1, 3, true), (4, 1, false), (5, 1, false), (6, 1, false), (7, 1, false)], (some (.agg #[(.string ⟨#[]⟩), (.int .i64 0), (.int .i64 0), (.int .i64 0), (.int .i64 0), (.slice none 0 0), (.slice none 0 0), (.slice none 0 0)])), none, none⟩
  | 113 => some ⟨7, 64, none, true, false, false, [(0, 1, false), (1, 3, true), (4, 3, true)], (some (.agg #[(.string ⟨#[]⟩), (.int .i64 0), (.int .i64 0), (.int .i64 0), (.int .i64 0), (.int .i64 0), (.int .i64 0)])), none, none⟩
  | 114 => some ⟨7, 64, none, true, false, false, [(0, 1, false), (1, 3, true), (4, 3, true)], (some (.agg #[(.string ⟨#[]⟩), (.int .i64 0), (.int .i64 0), (.int .i64 0), (.int .i64 0), (.int .i64 0), (.int .i64 0)])), none, none⟩
  | 139 => some ⟨8, 72, none, true, false, false, [(0, 1, false), (1, 7, true)], (some (.agg #[(.int .i64 0), (.string ⟨#[]⟩), (.int .i64 0), (.int .i64 0), (.int .i64 0), (.int .i64 0), (.int .i64 0), (.int .i64 0)])), none, none⟩
  | 140 => some ⟨8, 72, none, true, false, false, [(0, 1, false), (1, 7, true)], (some (.agg #[(.int .i64 0), (.string ⟨#[]⟩), (.int .i64 0), (.int .i64 0), (.int .i64 0), (.int .i64 0), (.int .i64 0), (.int .i64 0)])), none, none⟩
  | 149 => some ⟨2, 40, none, true, false, false, [(0, 1, false), (1, 1, false)], (some (.agg #[(.string ⟨#[]⟩), (.slice none 0 0)])), none, none⟩
  | 174 => some ⟨1, 24, (some 212), false, false, false, [], (some (.slice none 0 0)), none, none⟩
  | 190 => some ⟨4, 32, none, true, false, false, [(0, 1, false), (1, 3, true)], (some (.agg #[(.int .i64 0), (.int .i64 0), (.int .i64 0), (.int .i64 0)])), none, none⟩
  | 191 => some ⟨4, 32, none, true, false, false, [(0, 1, false), (1, 3, true)], (some (.agg #[(.int .i64 0), (.int .i64 0), (.int .i64 0), (.int .i64 0)])), none, none⟩
  | 196 => some ⟨1, 8, none, false, false, false, [], (some (.pointer none)), none, none⟩
  | 197 => some ⟨2, 32, none, true, false, false, [(0, 1, false), (1, 1, false)], (some (.agg #[(.pointer none), (.slice none 0 0)])), none, none⟩
  | 198 => some ⟨2, 32, none, true, false, false, [(0, 1, false), (1, 1, false)], (some (.agg #[(.pointer none), (.slice none 0 0)])), none, none⟩
  | 211 => some ⟨3, 24, none, true, false, false, [(0, 1, false), (1, 1, false), (2, 1, false)], (some (.agg #[(.int .i64 0), (.int .i64 0), (.int .i64 0)])), none, none⟩
  | 212 => some ⟨3, 24, none, true, false, false, [(0, 1, false), (1, 1, false), (2, 1, false)], (some (.agg #[(.int .i64 0), (.int .i64 0), (.int .i64 0)])), none, none⟩
  | 219 => some ⟨1, 8, none, false, false, false, [], (some .nilFunc), none, none⟩
  | 224 => some ⟨24, 24, none, true, false, false, [], (some (.agg #[(.int .u8 0), (.int .u8 0), (.int .u8 0), (.int .u8 0), (.int .u8 0), (.int .u8 0), (.int .u8 0), (.int .u8 0), (.int .u8 0), (.int .u8 0), (.int .u8 0), (.int .u8 0), (.int .u8 0), (.int .u8 0), (.int .u8 0), (.int .u8 0), (.int .u8 0), (.int .u8 0), (.int .u8 0), (.int .u8 0), (.int .u8 0), (.int .u8 0), (.int .u8 0), (.int .u8 0)])), none, (some (24, 1))⟩
  | 225 => some ⟨1, 8, none, false, false, false, [], (some (.int .u64 0)), (some .u64), none⟩
  | 231 => some ⟨3, 24, none, true, false, false, [], (some (.agg #[(.int .i64 0), (.int .i64 0), (.int .i64 0)])), none, (some (3, 1))⟩
  | 238 => some ⟨1, 8, none, false, false, false, [], (some (.pointer none)), none, none⟩
  | 247 => some ⟨1, 8, none, false, false, false, [], (some (.int .u64 0)), (some .u64), none⟩
  | 250 => some ⟨20, 160, none, true, false, false, [], (some (.agg #[(.int .u64 0), (.int .u64 0), (.int .u64 0), (.int .u64 0), (.int .u64 0), (.int .u64 0), (.int .u64 0), (.int .u64 0), (.int .u64 0), (.int .u64 0), (.int .u64 0), (.int .u64 0), (.int .u64 0), (.int .u64 0), (.int .u64 0), (.int .u64 0), (.int .u64 0), (.int .u64 0), (.int .u64 0), (.int .u64 0)])), none, (some (20, 1))⟩
  | 251 => some ⟨1, 4, none, false, false, false, [], (some (.int .u32 0)), (some .u32), none⟩
  | 252 => some ⟨65, 65, none, true, false, false, [], (some (.agg #[(.int .u8 0), (.int .u8 0), (.int .u8 0), (.int .u8 0), (.int .u8 0), (.int .u8 0), (.int .u8 0), (.int .u8 0), (.int .u8 0), (.int .u8 0), (.int .u8 0), (.int .u8 0), (.int .u8 0), (.int .u8 0), (.int .u8 0), (.int .u8 0), (.int .u8 0), (.int .u8 0), (.int .u8 0), (.int .u8 0), (.int .u8 0), (.int .u8 0), (.int .u8 0), (.int .u8 0), (.int .u8 0), (.int .u8 0), (.int .u8 0), (.int .u8 0), (.int .u8 0), (.int .u8 0), (.int .u8 0), (.int .u8 0), (.int .u8 0), (.int .u8 0), (.int .u8 0), (.int .u8 0), (.int .u8 0), (.int .u8 0), (.int .u8 0), (.int .u8 0), (.int .u8 0), (.int .u8 0), (.int .u8 0), (.int .u8 0), (.int .u8 0), (.int .u8 0), (.int .u8 0), (.int .u8 0), (.int .u8 0), (.int .u8 0), (.int .u8 0), (.int .u8 0), (.int .u8 0), (.int .u8 0), (.int .u8 0), (.int .u8 0), (.int .u8 0), (.int .u8 0), (.int .u8 0), (.int .u8 0), (.int .u8 0), (.int .u8 0), (.int .u8 0), (.int .u8 0), (.int .u8 0)])), none, (some (65, 1))⟩
  | 256 => some ⟨1, 24, (some 3), false, false, false, [], (some (.slice none 0 0)), none, none⟩
  | 263 => some ⟨1, 8, none, false, false, false, [], (some (.pointer none)), none, none⟩
  | 283 => some ⟨1, 8, none, false, false, false, [], (some (.int .i64 0)), (some .i64), none⟩
  | 291 => some ⟨32, 32, none, true, false, false, [], (some (.agg #[(.int .u8 0), (.int .u8 0), (.int .u8 0), (.int .u8 0), (.int .u8 0), (.int .u8 0), (.int .u8 0), (.int .u8 0), (.int .u8 0), (.int .u8 0), (.int .u8 0), (.int .u8 0), (.int .u8 0), (.int .u8 0), (.int .u8 0), (.int .u8 0), (.int .u8 0), (.int .u8 0), (.int .u8 0), (.int .u8 0), (.int .u8 0), (.int .u8 0), (.int .u8 0), (.int .u8 0), (.int .u8 0), (.int .u8 0), (.int .u8 0), (.int .u8 0), (.int .u8 0), (.int .u8 0), (.int .u8 0), (.int .u8 0)])), none, (some (32, 1))⟩
  | 292 => some ⟨64, 64, none, true, false, false, [], (some (.agg #[(.int .u8 0), (.int .u8 0), (.int .u8 0), (.int .u8 0), (.int .u8 0), (.int .u8 0), (.int .u8 0), (.int .u8 0), (.int .u8 0), (.int .u8 0), (.int .u8 0), (.int .u8 0), (.int .u8 0), (.int .u8 0), (.int .u8 0), (.int .u8 0), (.int .u8 0), (.int .u8 0), (.int .u8 0), (.int .u8 0), (.int .u8 0), (.int .u8 0), (.int .u8 0), (.int .u8 0), (.int .u8 0), (.int .u8 0), (.int .u8 0), (.int .u8 0), (.int .u8 0), (.int .u8 0), (.int .u8 0), (.int .u8 0), (.int .u8 0), (.int .u8 0), (.int .u8 0), (.int .u8 0), (.int .u8 0), (.int .u8 0), (.int .u8 0), (.int .u8 0), (.int .u8 0), (.int .u8 0), (.int .u8 0), (.int .u8 0), (.int .u8 0), (.int .u8 0), (.int .u8 0), (.int .u8 0), (.int .u8 0), (.int .u8 0), (.int .u8 0), (.int .u8 0), (.int .u8 0), (.int .u8 0), (.int .u8 0), (.int .u8 0), (.int .u8 0), (.int .u8 0), (.int .u8 0), (.int .u8 0), (.int .u8 0), (.int .u8 0), (.int .u8 0), (.int .u8 0)])), none, (some (64, 1))⟩
  | 293 => some ⟨1, 8, none, false, false, false, [], (some (.int .u64 0)), (some .u64), none⟩
  | 297 => some ⟨1, 8, none, false, false, false, [], (some (.pointer none)), none, none⟩
  | 299 => some ⟨256, 256, none, true, false, false, [], (some (.agg #[(.int .u8 0), (.int .u8 0), (.int .u8 0), (.int .u8 0), (.int .u8 0), (.int .u8 0), (.int .u8 0), (.int .u8 0), (.int .u8 0), (.int .u8 0), (.int .u8 0), (.int .u8 0), (.int .u8 0), (.int .u8 0), (.int .u8 0), (.int .u8 0), (.int .u8 0), (.int .u8 0), (.int .u8 0), (.int .u8 0), (.int .u8 0), (.int .u8 0), (.int .u8 0), (.int .u8 0), (.int .u8 0), (.int .u8 0), (.int .u8 0), (.int .u8 0), (.int .u8 0), (.int .u8 0), (.int .u8 0), (.int .u8 0), (.int .u8 0), (.int .u8 0), (.int .u8 0), (.int .u8 0), (.int .u8 0), (.int .u8 0), (.int .u8 0), (.int .u8 0), (.int .u8 0), (.int .u8 0), (.int .u8 0), (.int .u8 0), (.int .u8 0), (.int .u8 0), (.int .u8 0), (.int .u8 0), (.int .u8 0), (.int .u8 0), (.int .u8 0), (.int .u8 0), (.int .u8 0), (.int .u8 0), (.int .u8 0), (.int .u8 0), (.int .u8 0), (.int .u8 0), (.int .u8 0), (.int .u8 0), (.int .u8 0), (.int .u8 0), (.int .u8 0), (.int .u8 0), (.int .u8 0), (.int .u8 0), (.int .u8 0), (.int .u8 0), (.int .u8 0), (.int .u8 0), (.int .u8 0), (.int .u8 0), (.int .u8 0), (.int .u8 0), (.int .u8 0), (.int .u8 0), (.int .u8 0), (.int .u8 0), (.int .u8 0), (.int .u8 0), (.int .u8 0), (.int .u8 0), (.int .u8 0), (.int .u8 0), (.int .u8 0), (.int .u8 0), (.int .u8 0), (.int .u8 0), (.int .u8 0), (.int .u8 0), (.int .u8 0), (.int .u8 0), (.int .u8 0), (.int .u8 0), (.int .u8 0), (.int .u8 0), (.int .u8 0), (.int .u8 0), (.int .u8 0), (.int .u8 0), (.int .u8 0), (.int .u8 0), (.int .u8 0), (.int .u8 0), (.int .u8 0), (.int .u8 0), (.int .u8 0), (.int .u8 0), (.int .u8 0), (.int .u8 0), (.int .u8 0), (.int .u8 0), (.int .u8 0), (.int .u8 0), (.int .u8 0), (.int .u8 0), (.int .u8 0), (.int .u8 0), (.int .u8 0), (.int .u8 0), (.int .u8 0), (.int .u8 0), (.int .u8 0), (.int .u8 0), (.int .u8 0), (.int .u8 0), (.int .u8 0), (.int .u8 0), (.int .u8 0), (.int .u8 0), (.int .u8 0), (.int .u8 0), (.int .u8 0), (.int .u8 0), (.int .u8 0), (.int .u8 0), (.int .u8 0), (.int .u8 0), (.int .u8 0), (.int .u8 0), (.int .u8 0), (.int .u8 0), (.int .u8 0), (.int .u8 0), (.int .u8 0), (.int .u8 0), (.int .u8 0), (.int .u8 0), (.int .u8 0), (.int .u8 0), (.int .u8 0), (.int .u8 0), (.int .u8 0), (.int .u8 0), (.int .u8 0), (.int .u8 0), (.int .u8 0), (.int .u8 0), (.int .u8 0), (.int .u8 0), (.int .u8 0), (.int .u8 0), (.int .u8 0), (.int .u8 0), (.int .u8 0), (.int .u8 0), (.int .u8 0), (.int .u8 0), (.int .u8 0), (.int .u8 0), (.int .u8 0), (.int .u8 0), (.int .u8 0), (.int .u8 0), (.int .u8 0), (.int .u8 0), (.int .u8 0), (.int .u8 0), (.int .u8 0), (.int .u8 0), (.int .u8 0), (.int .u8 0), (.int .u8 0), (.int .u8 0), (.int .u8 0), (.int .u8 0), (.int .u8 0), (.int .u8 0), (.int .u8 0), (.int .u8 0), (.int .u8 0), (.int .u8 0), (.int .u8 0), (.int .u8 0), (.int .u8 0), (.int .u8 0), (.int .u8 0), (.int .u8 0), (.int .u8 0), (.int .u8 0), (.int .u8 0), (.int .u8 0), (.int .u8 0), (.int .u8 0), (.int .u8 0), (.int .u8 0), (.int .u8 0), (.int .u8 0), (.int .u8 0), (.int .u8 0), (.int .u8 0), (.int .u8 0), (.int .u8 0), (.int .u8 0), (.int .u8 0), (.int .u8 0), (.int .u8 0), (.int .u8 0), (.int .u8 0), (.int .u8 0), (.int .u8 0), (.int .u8 0), (.int .u8 0), (.int .u8 0), (.int .u8 0), (.int .u8 0), (.int .u8 0), (.int .u8 0), (.int .u8 0), (.int .u8 0), (.int .u8 0), (.int .u8 0), (.int .u8 0), (.int .u8 0), (.int .u8 0), (.int .u8 0), (.int .u8 0), (.int .u8 0), (.int .u8 0), (.int .u8 0), (.int .u8 0), (.int .u8 0), (.int .u8 0), (.int .u8 0), (.int .u8 0), (.int .u8 0), (.int .u8 0), (.int .u8 0), (.int .u8 0), (.int .u8 0), (.int .u8 0), (.int .u8 0), (.int .u8 0), (.int .u8 0), (.int .u8 0), (.int .u8 0)])), none, (some (256, 1))⟩
  | 300 => some ⟨2, 2, none, true, false, false, [(0, 1, false), (1, 1, false)], (some (.agg #[(.int .u8 0), (.int .u8 0)])), none, none⟩
  | 301 => some ⟨2, 2, none, true, false, false, [(0, 1, false), (1, 1, false)], (some (.agg #[(.int .u8 0), (.int .u8 0)])), none, none⟩
  | 302 => some ⟨32, 32, none, true, false, false, [], (some (.agg #[(.int .u8 0), (.int .u8 0), (.int .u8 0), (.int .u8 0), (.int .u8 0), (.int .u8 0), (.int .u8 0), (.int .u8 0), (.int .u8 0), (.int .u8 0), (.int .u8 0), (.int .u8 0), (.int .u8 0), (.int .u8 0), (.int .u8 0), (.int .u8 0), (.int .u8 0), (.int .u8 0), (.int .u8 0), (.int .u8 0), (.int .u8 0), (.int .u8 0), (.int .u8 0), (.int .u8 0), (.int .u8 0), (.int .u8 0), (.int .u8 0), (.int .u8 0), (.int .u8 0), (.int .u8 0), (.int .u8 0), (.int .u8 0)])), none, (some (16, 2))⟩
  | 304 => some ⟨1, 8, none, false, false, false, [], (some (.pointer none)), none, none⟩
  | 307 => some ⟨4, 40, none, true, false, false, [(0, 1, false), (1, 1, false), (2, 1, false), (3, 1, false)], (some (.agg #[(.pointer none), (.pointer none), (.pointer none), (.string ⟨#[]⟩)])), none, none⟩
  | 308 => some ⟨4, 40, none, true, false, false, [(0, 1, false), (1, 1, false), (2, 1, false), (3, 1, false)], (some (.agg #[(.pointer none), (.pointer none), (.pointer none), (.string ⟨#[]⟩)])), none, none⟩
  | 309 => some ⟨0, 0, none, true, false, false, [], (some (.agg #[])), none, (some (0, 1))⟩
  | 310 => some ⟨0, 0, none, true, false, false, [(0, 0, true)], (some (.agg #[])), none, none⟩
  | 311 => some ⟨0, 0, none, true, false, false, [(0, 0, true)], (some (.agg #[])), none, none⟩
  | 312 => some ⟨1, 1, none, false, false, false, [], (some (.int .u8 0)), (some .u8), none⟩
  | 313 => some ⟨1, 1, none, false, false, false, [], (some (.int .u8 0)), (some .u8), none⟩
  | 315 => some ⟨1, 4, none, false, false, false, [], (some (.int .i32 0)), (some .i32), none⟩
  | 316 => some ⟨1, 4, none, false, false, false, [], (some (.int .i32 0)), (some .i32), none⟩
  | _ => none

set_option maxRecDepth 100000 in
theorem T_ok : ∀ t i, T t = some i → tiOf Tryz.prog t = some i := by
  intro t i h
  unfold T at h
  split at h
  all_goals (cases h <;> kernel_rfl)
end Go.Proofs.YtgcnggefeapalaaGreatDoor

/- The functions: their numbers, bodies, temporaries, results. Plain theorems, no condition. -/
namespace Go.Proofs.YtgcnggefeapalaaGreatDoor
open Go.Fw
noncomputable abbrev PP : Program := Tryz.prog
theorem tab : TabOK PP T := T_ok
abbrev n_laws_FnExactFormatSystem : Nat := 3
theorem fn_laws_FnExactFormatSystem : FnAt PP 3 (Tryz.f3.body.getD .skip) 27 [.tmp 2] := FnAt.of (fn := Tryz.f3) (by kernel_rfl) (by kernel_rfl) (by kernel_rfl) (by kernel_rfl) (by kernel_rfl) (by decide)
abbrev n_laws_szSystem : Nat := 6
theorem fn_laws_szSystem : FnAt PP 6 (Tryz.f6.body.getD .skip) 18 [.tmp 4] := FnAt.of (fn := Tryz.f6) (by kernel_rfl) (by kernel_rfl) (by kernel_rfl) (by kernel_rfl) (by kernel_rfl) (by decide)
abbrev n_spec_FormatSystem : Nat := 7
theorem fn_spec_FormatSystem : FnAt PP 7 (Tryz.f7.body.getD .skip) 109 [.tmp 2] := FnAt.of (fn := Tryz.f7) (by kernel_rfl) (by kernel_rfl) (by kernel_rfl) (by kernel_rfl) (by kernel_rfl) (by decide)
abbrev n_laws_toSystem : Nat := 8
theorem fn_laws_toSystem : FnAt PP 8 (Tryz.f8.body.getD .skip) 13 [.cell 2 35] := FnAt.of (fn := Tryz.f8) (by kernel_rfl) (by kernel_rfl) (by kernel_rfl) (by kernel_rfl) (by kernel_rfl) (by decide)
abbrev n_impl_FormatSystem : Nat := 9
theorem fn_impl_FormatSystem : FnAt PP 9 (Tryz.f9.body.getD .skip) 109 [.tmp 2] := FnAt.of (fn := Tryz.f9) (by kernel_rfl) (by kernel_rfl) (by kernel_rfl) (by kernel_rfl) (by kernel_rfl) (by decide)
abbrev n_laws_eqSystem : Nat := 10
theorem fn_laws_eqSystem : FnAt PP 10 (Tryz.f10.body.getD .skip) 17 [.tmp 4] := FnAt.of (fn := Tryz.f10) (by kernel_rfl) (by kernel_rfl) (by kernel_rfl) (by kernel_rfl) (by kernel_rfl) (by decide)
abbrev n_laws_szPackS : Nat := 11
theorem fn_laws_szPackS : FnAt PP 11 (Tryz.f11.body.getD .skip) 27 [.tmp 4] := FnAt.of (fn := Tryz.f11) (by kernel_rfl) (by kernel_rfl) (by kernel_rfl) (by kernel_rfl) (by kernel_rfl) (by decide)
abbrev n_laws_szDisk : Nat := 12
theorem fn_laws_szDisk : FnAt PP 12 (Tryz.f12.body.getD .skip) 12 [.tmp 4] := FnAt.of (fn := Tryz.f12) (by kernel_rfl) (by kernel_rfl) (by kernel_rfl) (by kernel_rfl) (by kernel_rfl) (by decide)
abbrev n_laws_toPackS : Nat := 15
theorem fn_laws_toPackS : FnAt PP 15 (Tryz.f15.body.getD .skip) 23 [.tmp 2] := FnAt.of (fn := Tryz.f15) (by kernel_rfl) (by kernel_rfl) (by kernel_rfl) (by kernel_rfl) (by kernel_rfl) (by decide)
abbrev n_laws_toDisk : Nat := 16
theorem fn_laws_toDisk : FnAt PP 16 (Tryz.f16.body.getD .skip) 21 [.cell 2 33] := FnAt.of (fn := Tryz.f16) (by kernel_rfl) (by kernel_rfl) (by kernel_rfl) (by kernel_rfl) (by kernel_rfl) (by decide)
abbrev n_laws_eqPackS : Nat := 20
theorem fn_laws_eqPackS : FnAt PP 20 (Tryz.f20.body.getD .skip) 27 [.tmp 4] := FnAt.of (fn := Tryz.f20) (by kernel_rfl) (by kernel_rfl) (by kernel_rfl) (by kernel_rfl) (by kernel_rfl) (by decide)
abbrev n_laws_eqDisk : Nat := 21
theorem fn_laws_eqDisk : FnAt PP 21 (Tryz.f21.body.getD .skip) 31 [.tmp 4] := FnAt.of (fn := Tryz.f21) (by kernel_rfl) (by kernel_rfl) (by kernel_rfl) (by kernel_rfl) (by kernel_rfl) (by decide)
abbrev n_laws_szTermS : Nat := 23
theorem fn_laws_szTermS : FnAt PP 23 (Tryz.f23.body.getD .skip) 27 [.tmp 4] := FnAt.of (fn := Tryz.f23) (by kernel_rfl) (by kernel_rfl) (by kernel_rfl) (by kernel_rfl) (by kernel_rfl) (by decide)
abbrev n_laws_toTermS : Nat := 25
theorem fn_laws_toTermS : FnAt PP 25 (Tryz.f25.body.getD .skip) 23 [.tmp 2] := FnAt.of (fn := Tryz.f25) (by kernel_rfl) (by kernel_rfl) (by kernel_rfl) (by kernel_rfl) (by kernel_rfl) (by decide)
abbrev n_laws_eqTermS : Nat := 27
theorem fn_laws_eqTermS : FnAt PP 27 (Tryz.f27.body.getD .skip) 27 [.tmp 4] := FnAt.of (fn := Tryz.f27) (by kernel_rfl) (by kernel_rfl) (by kernel_rfl) (by kernel_rfl) (by kernel_rfl) (by decide)
abbrev n_spec_SystemFault : Nat := 28
theorem fn_spec_SystemFault : FnAt PP 28 (Tryz.f28.body.getD .skip) 47 [.tmp 2] := FnAt.of (fn := Tryz.f28) (by kernel_rfl) (by kernel_rfl) (by kernel_rfl) (by kernel_rfl) (by kernel_rfl) (by decide)
abbrev n_spec_l12Line : Nat := 29
theorem fn_spec_l12Line : FnAt PP 29 (Tryz.f29.body.getD .skip) 21 [.tmp 4] := FnAt.of (fn := Tryz.f29) (by kernel_rfl) (by kernel_rfl) (by kernel_rfl) (by kernel_rfl) (by kernel_rfl) (by decide)
abbrev n_spec_l8Current : Nat := 30
theorem fn_spec_l8Current : FnAt PP 30 (Tryz.f30.body.getD .skip) 33 [.tmp 2] := FnAt.of (fn := Tryz.f30) (by kernel_rfl) (by kernel_rfl) (by kernel_rfl) (by kernel_rfl) (by kernel_rfl) (by decide)
abbrev n_spec_l8Asks : Nat := 31
theorem fn_spec_l8Asks : FnAt PP 31 (Tryz.f31.body.getD .skip) 21 [.tmp 2, .tmp 3] := FnAt.of (fn := Tryz.f31) (by kernel_rfl) (by kernel_rfl) (by kernel_rfl) (by kernel_rfl) (by kernel_rfl) (by decide)
abbrev n_spec_FormatTerm : Nat := 32
theorem fn_spec_FormatTerm : FnAt PP 32 (Tryz.f32.body.getD .skip) 31 [.tmp 2] := FnAt.of (fn := Tryz.f32) (by kernel_rfl) (by kernel_rfl) (by kernel_rfl) (by kernel_rfl) (by kernel_rfl) (by decide)
abbrev n_spec_l8Shown : Nat := 33
theorem fn_spec_l8Shown : FnAt PP 33 (Tryz.f33.body.getD .skip) 10 [.cell 4 74] := FnAt.of (fn := Tryz.f33) (by kernel_rfl) (by kernel_rfl) (by kernel_rfl) (by kernel_rfl) (by kernel_rfl) (by decide)
abbrev n_spec_FormatVersion : Nat := 34
theorem fn_spec_FormatVersion : FnAt PP 34 (Tryz.f34.body.getD .skip) 19 [.tmp 2] := FnAt.of (fn := Tryz.f34) (by kernel_rfl) (by kernel_rfl) (by kernel_rfl) (by kernel_rfl) (by kernel_rfl) (by decide)
abbrev n_spec_SumOf : Nat := 35
theorem fn_spec_SumOf : FnAt PP 35 (Tryz.f35.body.getD .skip) 21 [.tmp 2] := FnAt.of (fn := Tryz.f35) (by kernel_rfl) (by kernel_rfl) (by kernel_rfl) (by kernel_rfl) (by kernel_rfl) (by decide)
abbrev n_impl_SystemFault : Nat := 36
theorem fn_impl_SystemFault : FnAt PP 36 (Tryz.f36.body.getD .skip) 41 [.tmp 2] := FnAt.of (fn := Tryz.f36) (by kernel_rfl) (by kernel_rfl) (by kernel_rfl) (by kernel_rfl) (by kernel_rfl) (by decide)
abbrev n_impl_Disk_current : Nat := 37
theorem fn_impl_Disk_current : FnAt PP 37 (Tryz.f37.body.getD .skip) 25 [.tmp 2, .tmp 3] := FnAt.of (fn := Tryz.f37) (by kernel_rfl) (by kernel_rfl) (by kernel_rfl) (by kernel_rfl) (by kernel_rfl) (by decide)
abbrev n_impl_dec : Nat := 38
theorem fn_impl_dec : FnAt PP 38 (Tryz.f38.body.getD .skip) 5 [.tmp 2] := FnAt.of (fn := Tryz.f38) (by kernel_rfl) (by kernel_rfl) (by kernel_rfl) (by kernel_rfl) (by kernel_rfl) (by decide)
abbrev n_impl_Disk_roots : Nat := 39
theorem fn_impl_Disk_roots : FnAt PP 39 (Tryz.f39.body.getD .skip) 51 [.tmp 2, .tmp 3] := FnAt.of (fn := Tryz.f39) (by kernel_rfl) (by kernel_rfl) (by kernel_rfl) (by kernel_rfl) (by kernel_rfl) (by decide)
abbrev n_impl_FormatTerm : Nat := 40
theorem fn_impl_FormatTerm : FnAt PP 40 (Tryz.f40.body.getD .skip) 30 [.tmp 2] := FnAt.of (fn := Tryz.f40) (by kernel_rfl) (by kernel_rfl) (by kernel_rfl) (by kernel_rfl) (by kernel_rfl) (by decide)
abbrev n_impl_shown : Nat := 41
theorem fn_impl_shown : FnAt PP 41 (Tryz.f41.body.getD .skip) 22 [.tmp 4, .tmp 5] := FnAt.of (fn := Tryz.f41) (by kernel_rfl) (by kernel_rfl) (by kernel_rfl) (by kernel_rfl) (by kernel_rfl) (by decide)
abbrev n_impl_joined : Nat := 42
theorem fn_impl_joined : FnAt PP 42 (Tryz.f42.body.getD .skip) 5 [.tmp 2] := FnAt.of (fn := Tryz.f42) (by kernel_rfl) (by kernel_rfl) (by kernel_rfl) (by kernel_rfl) (by kernel_rfl) (by decide)
abbrev n_impl_Version_text : Nat := 43
theorem fn_impl_Version_text : FnAt PP 43 (Tryz.f43.body.getD .skip) 16 [.tmp 2] := FnAt.of (fn := Tryz.f43) (by kernel_rfl) (by kernel_rfl) (by kernel_rfl) (by kernel_rfl) (by kernel_rfl) (by decide)
abbrev n_impl_SumOf : Nat := 44
theorem fn_impl_SumOf : FnAt PP 44 (Tryz.f44.body.getD .skip) 20 [.tmp 2] := FnAt.of (fn := Tryz.f44) (by kernel_rfl) (by kernel_rfl) (by kernel_rfl) (by kernel_rfl) (by kernel_rfl) (by decide)
abbrev n_laws_szPack : Nat := 45
theorem fn_laws_szPack : FnAt PP 45 (Tryz.f45.body.getD .skip) 31 [.tmp 4] := FnAt.of (fn := Tryz.f45) (by kernel_rfl) (by kernel_rfl) (by kernel_rfl) (by kernel_rfl) (by kernel_rfl) (by decide)
abbrev n_laws_szFileS : Nat := 46
theorem fn_laws_szFileS : FnAt PP 46 (Tryz.f46.body.getD .skip) 27 [.tmp 4] := FnAt.of (fn := Tryz.f46) (by kernel_rfl) (by kernel_rfl) (by kernel_rfl) (by kernel_rfl) (by kernel_rfl) (by decide)
abbrev n_spec_l8Asked : Nat := 48
theorem fn_spec_l8Asked : FnAt PP 48 (Tryz.f48.body.getD .skip) 13 [.tmp 4] := FnAt.of (fn := Tryz.f48) (by kernel_rfl) (by kernel_rfl) (by kernel_rfl) (by kernel_rfl) (by kernel_rfl) (by decide)
abbrev n_laws_toPack : Nat := 51
theorem fn_laws_toPack : FnAt PP 51 (Tryz.f51.body.getD .skip) 27 [.cell 2 79] := FnAt.of (fn := Tryz.f51) (by kernel_rfl) (by kernel_rfl) (by kernel_rfl) (by kernel_rfl) (by kernel_rfl) (by decide)
abbrev n_laws_toFileS : Nat := 52
theorem fn_laws_toFileS : FnAt PP 52 (Tryz.f52.body.getD .skip) 23 [.tmp 2] := FnAt.of (fn := Tryz.f52) (by kernel_rfl) (by kernel_rfl) (by kernel_rfl) (by kernel_rfl) (by kernel_rfl) (by decide)
abbrev n_impl_bothCode : Nat := 54
theorem fn_impl_bothCode : FnAt PP 54 (Tryz.f54.body.getD .skip) 11 [.tmp 4] := FnAt.of (fn := Tryz.f54) (by kernel_rfl) (by kernel_rfl) (by kernel_rfl) (by kernel_rfl) (by kernel_rfl) (by decide)
abbrev n_laws_eqPack : Nat := 56
theorem fn_laws_eqPack : FnAt PP 56 (Tryz.f56.body.getD .skip) 39 [.tmp 4] := FnAt.of (fn := Tryz.f56) (by kernel_rfl) (by kernel_rfl) (by kernel_rfl) (by kernel_rfl) (by kernel_rfl) (by decide)
abbrev n_laws_eqFileS : Nat := 57
theorem fn_laws_eqFileS : FnAt PP 57 (Tryz.f57.body.getD .skip) 27 [.tmp 4] := FnAt.of (fn := Tryz.f57) (by kernel_rfl) (by kernel_rfl) (by kernel_rfl) (by kernel_rfl) (by kernel_rfl) (by decide)
abbrev n_laws_szTerm : Nat := 59
theorem fn_laws_szTerm : FnAt PP 59 (Tryz.f59.body.getD .skip) 13 [.tmp 4] := FnAt.of (fn := Tryz.f59) (by kernel_rfl) (by kernel_rfl) (by kernel_rfl) (by kernel_rfl) (by kernel_rfl) (by decide)
abbrev n_spec_l2Terms : Nat := 60
theorem fn_spec_l2Terms : FnAt PP 60 (Tryz.f60.body.getD .skip) 19 [.tmp 2] := FnAt.of (fn := Tryz.f60) (by kernel_rfl) (by kernel_rfl) (by kernel_rfl) (by kernel_rfl) (by kernel_rfl) (by decide)
abbrev n_spec_l7Find : Nat := 61
theorem fn_spec_l7Find : FnAt PP 61 (Tryz.f61.body.getD .skip) 26 [.tmp 4] := FnAt.of (fn := Tryz.f61) (by kernel_rfl) (by kernel_rfl) (by kernel_rfl) (by kernel_rfl) (by kernel_rfl) (by decide)
abbrev n_laws_toTerm : Nat := 63
theorem fn_laws_toTerm : FnAt PP 63 (Tryz.f63.body.getD .skip) 16 [.cell 2 71] := FnAt.of (fn := Tryz.f63) (by kernel_rfl) (by kernel_rfl) (by kernel_rfl) (by kernel_rfl) (by kernel_rfl) (by decide)
abbrev n_impl_termsFault : Nat := 65
theorem fn_impl_termsFault : FnAt PP 65 (Tryz.f65.body.getD .skip) 18 [.tmp 2] := FnAt.of (fn := Tryz.f65) (by kernel_rfl) (by kernel_rfl) (by kernel_rfl) (by kernel_rfl) (by kernel_rfl) (by decide)
abbrev n_laws_eqTerm : Nat := 67
theorem fn_laws_eqTerm : FnAt PP 67 (Tryz.f67.body.getD .skip) 22 [.tmp 4] := FnAt.of (fn := Tryz.f67) (by kernel_rfl) (by kernel_rfl) (by kernel_rfl) (by kernel_rfl) (by kernel_rfl) (by decide)
abbrev n_spec_l3Good : Nat := 68
theorem fn_spec_l3Good : FnAt PP 68 (Tryz.f68.body.getD .skip) 10 [.tmp 4] := FnAt.of (fn := Tryz.f68) (by kernel_rfl) (by kernel_rfl) (by kernel_rfl) (by kernel_rfl) (by kernel_rfl) (by decide)
abbrev n_spec_l8Lacking : Nat := 69
theorem fn_spec_l8Lacking : FnAt PP 69 (Tryz.f69.body.getD .skip) 57 [.tmp 6] := FnAt.of (fn := Tryz.f69) (by kernel_rfl) (by kernel_rfl) (by kernel_rfl) (by kernel_rfl) (by kernel_rfl) (by decide)
abbrev n_spec_l1Decimal : Nat := 70
theorem fn_spec_l1Decimal : FnAt PP 70 (Tryz.f70.body.getD .skip) 20 [.tmp 2] := FnAt.of (fn := Tryz.f70) (by kernel_rfl) (by kernel_rfl) (by kernel_rfl) (by kernel_rfl) (by kernel_rfl) (by decide)
abbrev n_spec_l1Number : Nat := 71
theorem fn_spec_l1Number : FnAt PP 71 (Tryz.f71.body.getD .skip) 37 [.tmp 4, .tmp 5] := FnAt.of (fn := Tryz.f71) (by kernel_rfl) (by kernel_rfl) (by kernel_rfl) (by kernel_rfl) (by kernel_rfl) (by decide)
abbrev n_spec_l1Has : Nat := 72
theorem fn_spec_l1Has : FnAt PP 72 (Tryz.f72.body.getD .skip) 18 [.tmp 4] := FnAt.of (fn := Tryz.f72) (by kernel_rfl) (by kernel_rfl) (by kernel_rfl) (by kernel_rfl) (by kernel_rfl) (by decide)
abbrev n_spec_l8Gens : Nat := 73
theorem fn_spec_l8Gens : FnAt PP 73 (Tryz.f73.body.getD .skip) 41 [.tmp 2] := FnAt.of (fn := Tryz.f73) (by kernel_rfl) (by kernel_rfl) (by kernel_rfl) (by kernel_rfl) (by kernel_rfl) (by decide)
abbrev n_spec_l8Roots : Nat := 74
theorem fn_spec_l8Roots : FnAt PP 74 (Tryz.f74.body.getD .skip) 58 [.tmp 2, .tmp 3] := FnAt.of (fn := Tryz.f74) (by kernel_rfl) (by kernel_rfl) (by kernel_rfl) (by kernel_rfl) (by kernel_rfl) (by decide)
abbrev n_spec_TermFault : Nat := 75
theorem fn_spec_TermFault : FnAt PP 75 (Tryz.f75.body.getD .skip) 33 [.tmp 2] := FnAt.of (fn := Tryz.f75) (by kernel_rfl) (by kernel_rfl) (by kernel_rfl) (by kernel_rfl) (by kernel_rfl) (by decide)
abbrev n_spec_CompareVersions : Nat := 76
theorem fn_spec_CompareVersions : FnAt PP 76 (Tryz.f76.body.getD .skip) 28 [.tmp 4] := FnAt.of (fn := Tryz.f76) (by kernel_rfl) (by kernel_rfl) (by kernel_rfl) (by kernel_rfl) (by kernel_rfl) (by decide)
abbrev n_spec_l1Top : Nat := 77
theorem fn_spec_l1Top : FnAt PP 77 (Tryz.f77.body.getD .skip) 2 [.cell 0 69] := FnAt.of (fn := Tryz.f77) (by kernel_rfl) (by kernel_rfl) (by kernel_rfl) (by kernel_rfl) (by kernel_rfl) (by decide)
abbrev n_spec_l8Set : Nat := 78
theorem fn_spec_l8Set : FnAt PP 78 (Tryz.f78.body.getD .skip) 35 [.cell 6 74] := FnAt.of (fn := Tryz.f78) (by kernel_rfl) (by kernel_rfl) (by kernel_rfl) (by kernel_rfl) (by kernel_rfl) (by decide)
abbrev n_spec_VersionFault : Nat := 79
theorem fn_spec_VersionFault : FnAt PP 79 (Tryz.f79.body.getD .skip) 19 [.tmp 2] := FnAt.of (fn := Tryz.f79) (by kernel_rfl) (by kernel_rfl) (by kernel_rfl) (by kernel_rfl) (by kernel_rfl) (by decide)
abbrev n_impl_isWhole : Nat := 80
theorem fn_impl_isWhole : FnAt PP 80 (Tryz.f80.body.getD .skip) 18 [.tmp 6] := FnAt.of (fn := Tryz.f80) (by kernel_rfl) (by kernel_rfl) (by kernel_rfl) (by kernel_rfl) (by kernel_rfl) (by decide)
abbrev n_impl_Disk_data : Nat := 81
theorem fn_impl_Disk_data : FnAt PP 81 (Tryz.f81.body.getD .skip) 22 [.tmp 4, .tmp 5] := FnAt.of (fn := Tryz.f81) (by kernel_rfl) (by kernel_rfl) (by kernel_rfl) (by kernel_rfl) (by kernel_rfl) (by decide)
abbrev n_impl_number : Nat := 82
theorem fn_impl_number : FnAt PP 82 (Tryz.f82.body.getD .skip) 40 [.tmp 4] := FnAt.of (fn := Tryz.f82) (by kernel_rfl) (by kernel_rfl) (by kernel_rfl) (by kernel_rfl) (by kernel_rfl) (by decide)
abbrev n_slices_Contains_L_int64_int64 : Nat := 83
theorem fn_slices_Contains_L_int64_int64 : FnAt PP 83 (Tryz.f83.body.getD .skip) 9 [.tmp 4] := FnAt.of (fn := Tryz.f83) (by kernel_rfl) (by kernel_rfl) (by kernel_rfl) (by kernel_rfl) (by kernel_rfl) (by decide)
abbrev n_impl_Disk_gens : Nat := 84
theorem fn_impl_Disk_gens : FnAt PP 84 (Tryz.f84.body.getD .skip) 31 [.tmp 2] := FnAt.of (fn := Tryz.f84) (by kernel_rfl) (by kernel_rfl) (by kernel_rfl) (by kernel_rfl) (by kernel_rfl) (by decide)
abbrev n_strconv_FormatInt : Nat := 85
theorem fn_strconv_FormatInt : FnAt PP 85 (Tryz.f85.body.getD .skip) 8 [.tmp 4] := FnAt.of (fn := Tryz.f85) (by kernel_rfl) (by kernel_rfl) (by kernel_rfl) (by kernel_rfl) (by kernel_rfl) (by decide)
abbrev n_impl_linesOf : Nat := 86
theorem fn_impl_linesOf : FnAt PP 86 (Tryz.f86.body.getD .skip) 19 [.tmp 2] := FnAt.of (fn := Tryz.f86) (by kernel_rfl) (by kernel_rfl) (by kernel_rfl) (by kernel_rfl) (by kernel_rfl) (by decide)
abbrev n_impl_ParseTerm : Nat := 87
theorem fn_impl_ParseTerm : FnAt PP 87 (Tryz.f87.body.getD .skip) 90 [.cell 2 140] := FnAt.of (fn := Tryz.f87) (by kernel_rfl) (by kernel_rfl) (by kernel_rfl) (by kernel_rfl) (by kernel_rfl) (by decide)
abbrev n_impl_RootsText : Nat := 88
theorem fn_impl_RootsText : FnAt PP 88 (Tryz.f88.body.getD .skip) 22 [.tmp 2] := FnAt.of (fn := Tryz.f88) (by kernel_rfl) (by kernel_rfl) (by kernel_rfl) (by kernel_rfl) (by kernel_rfl) (by decide)
abbrev n_impl_twoOfOne : Nat := 89
theorem fn_impl_twoOfOne : FnAt PP 89 (Tryz.f89.body.getD .skip) 18 [.tmp 2] := FnAt.of (fn := Tryz.f89) (by kernel_rfl) (by kernel_rfl) (by kernel_rfl) (by kernel_rfl) (by kernel_rfl) (by decide)
abbrev n_impl_TermFault : Nat := 90
theorem fn_impl_TermFault : FnAt PP 90 (Tryz.f90.body.getD .skip) 35 [.tmp 2] := FnAt.of (fn := Tryz.f90) (by kernel_rfl) (by kernel_rfl) (by kernel_rfl) (by kernel_rfl) (by kernel_rfl) (by decide)
abbrev n_impl_top : Nat := 91
theorem fn_impl_top : FnAt PP 91 (Tryz.f91.body.getD .skip) 2 [.cell 0 69] := FnAt.of (fn := Tryz.f91) (by kernel_rfl) (by kernel_rfl) (by kernel_rfl) (by kernel_rfl) (by kernel_rfl) (by decide)
abbrev n_impl_setOf : Nat := 92
theorem fn_impl_setOf : FnAt PP 92 (Tryz.f92.body.getD .skip) 31 [.tmp 6, .tmp 7] := FnAt.of (fn := Tryz.f92) (by kernel_rfl) (by kernel_rfl) (by kernel_rfl) (by kernel_rfl) (by kernel_rfl) (by decide)
abbrev n_strings_Join : Nat := 93
theorem fn_strings_Join : FnAt PP 93 (Tryz.f93.body.getD .skip) 75 [.tmp 4] := FnAt.of (fn := Tryz.f93) (by kernel_rfl) (by kernel_rfl) (by kernel_rfl) (by kernel_rfl) (by kernel_rfl) (by decide)
abbrev n_laws_szStringS : Nat := 94
theorem fn_laws_szStringS : FnAt PP 94 (Tryz.f94.body.getD .skip) 28 [.tmp 4] := FnAt.of (fn := Tryz.f94) (by kernel_rfl) (by kernel_rfl) (by kernel_rfl) (by kernel_rfl) (by kernel_rfl) (by decide)
abbrev n_laws_szTermSS : Nat := 95
theorem fn_laws_szTermSS : FnAt PP 95 (Tryz.f95.body.getD .skip) 27 [.tmp 4] := FnAt.of (fn := Tryz.f95) (by kernel_rfl) (by kernel_rfl) (by kernel_rfl) (by kernel_rfl) (by kernel_rfl) (by decide)
abbrev n_laws_szFile : Nat := 96
theorem fn_laws_szFile : FnAt PP 96 (Tryz.f96.body.getD .skip) 19 [.tmp 4] := FnAt.of (fn := Tryz.f96) (by kernel_rfl) (by kernel_rfl) (by kernel_rfl) (by kernel_rfl) (by kernel_rfl) (by decide)
abbrev n_spec_CatalogFault : Nat := 97
theorem fn_spec_CatalogFault : FnAt PP 97 (Tryz.f97.body.getD .skip) 37 [.tmp 2] := FnAt.of (fn := Tryz.f97) (by kernel_rfl) (by kernel_rfl) (by kernel_rfl) (by kernel_rfl) (by kernel_rfl) (by decide)
abbrev n_spec_DiskFault : Nat := 98
theorem fn_spec_DiskFault : FnAt PP 98 (Tryz.f98.body.getD .skip) 72 [.tmp 2] := FnAt.of (fn := Tryz.f98) (by kernel_rfl) (by kernel_rfl) (by kernel_rfl) (by kernel_rfl) (by kernel_rfl) (by decide)
abbrev n_spec_l1In : Nat := 99
theorem fn_spec_l1In : FnAt PP 99 (Tryz.f99.body.getD .skip) 15 [.tmp 6] := FnAt.of (fn := Tryz.f99) (by kernel_rfl) (by kernel_rfl) (by kernel_rfl) (by kernel_rfl) (by kernel_rfl) (by decide)
abbrev n_spec_l7Total : Nat := 101
theorem fn_spec_l7Total : FnAt PP 101 (Tryz.f101.body.getD .skip) 26 [.tmp 2] := FnAt.of (fn := Tryz.f101) (by kernel_rfl) (by kernel_rfl) (by kernel_rfl) (by kernel_rfl) (by kernel_rfl) (by decide)
abbrev n_spec_l8Path : Nat := 104
theorem fn_spec_l8Path : FnAt PP 104 (Tryz.f104.body.getD .skip) 11 [.tmp 2] := FnAt.of (fn := Tryz.f104) (by kernel_rfl) (by kernel_rfl) (by kernel_rfl) (by kernel_rfl) (by kernel_rfl) (by decide)
abbrev n_spec_l2Bytes : Nat := 105
theorem fn_spec_l2Bytes : FnAt PP 105 (Tryz.f105.body.getD .skip) 50 [.tmp 2] := FnAt.of (fn := Tryz.f105) (by kernel_rfl) (by kernel_rfl) (by kernel_rfl) (by kernel_rfl) (by kernel_rfl) (by decide)
abbrev n_spec_GenPath : Nat := 107
theorem fn_spec_GenPath : FnAt PP 107 (Tryz.f107.body.getD .skip) 11 [.tmp 2] := FnAt.of (fn := Tryz.f107) (by kernel_rfl) (by kernel_rfl) (by kernel_rfl) (by kernel_rfl) (by kernel_rfl) (by decide)
abbrev n_laws_toVersion : Nat := 109
theorem fn_laws_toVersion : FnAt PP 109 (Tryz.f109.body.getD .skip) 14 [.cell 2 69] := FnAt.of (fn := Tryz.f109) (by kernel_rfl) (by kernel_rfl) (by kernel_rfl) (by kernel_rfl) (by kernel_rfl) (by decide)
abbrev n_laws_toStringS : Nat := 110
theorem fn_laws_toStringS : FnAt PP 110 (Tryz.f110.body.getD .skip) 22 [.tmp 2] := FnAt.of (fn := Tryz.f110) (by kernel_rfl) (by kernel_rfl) (by kernel_rfl) (by kernel_rfl) (by kernel_rfl) (by decide)
abbrev n_laws_toTermSS : Nat := 111
theorem fn_laws_toTermSS : FnAt PP 111 (Tryz.f111.body.getD .skip) 23 [.tmp 2] := FnAt.of (fn := Tryz.f111) (by kernel_rfl) (by kernel_rfl) (by kernel_rfl) (by kernel_rfl) (by kernel_rfl) (by decide)
abbrev n_laws_toFile : Nat := 112
theorem fn_laws_toFile : FnAt PP 112 (Tryz.f112.body.getD .skip) 12 [.cell 2 83] := FnAt.of (fn := Tryz.f112) (by kernel_rfl) (by kernel_rfl) (by kernel_rfl) (by kernel_rfl) (by kernel_rfl) (by decide)
abbrev n_impl_firstCode : Nat := 113
theorem fn_impl_firstCode : FnAt PP 113 (Tryz.f113.body.getD .skip) 15 [.tmp 2] := FnAt.of (fn := Tryz.f113) (by kernel_rfl) (by kernel_rfl) (by kernel_rfl) (by kernel_rfl) (by kernel_rfl) (by decide)
abbrev n_impl_CatalogFault : Nat := 114
theorem fn_impl_CatalogFault : FnAt PP 114 (Tryz.f114.body.getD .skip) 31 [.tmp 2] := FnAt.of (fn := Tryz.f114) (by kernel_rfl) (by kernel_rfl) (by kernel_rfl) (by kernel_rfl) (by kernel_rfl) (by decide)
abbrev n_impl_DiskFault : Nat := 115
theorem fn_impl_DiskFault : FnAt PP 115 (Tryz.f115.body.getD .skip) 68 [.tmp 2] := FnAt.of (fn := Tryz.f115) (by kernel_rfl) (by kernel_rfl) (by kernel_rfl) (by kernel_rfl) (by kernel_rfl) (by decide)
abbrev n_impl_Disk_total : Nat := 118
theorem fn_impl_Disk_total : FnAt PP 118 (Tryz.f118.body.getD .skip) 20 [.tmp 2] := FnAt.of (fn := Tryz.f118) (by kernel_rfl) (by kernel_rfl) (by kernel_rfl) (by kernel_rfl) (by kernel_rfl) (by decide)
abbrev n_laws_eqVersion : Nat := 123
theorem fn_laws_eqVersion : FnAt PP 123 (Tryz.f123.body.getD .skip) 20 [.tmp 4] := FnAt.of (fn := Tryz.f123) (by kernel_rfl) (by kernel_rfl) (by kernel_rfl) (by kernel_rfl) (by kernel_rfl) (by decide)
abbrev n_laws_eqStringS : Nat := 124
theorem fn_laws_eqStringS : FnAt PP 124 (Tryz.f124.body.getD .skip) 26 [.tmp 4] := FnAt.of (fn := Tryz.f124) (by kernel_rfl) (by kernel_rfl) (by kernel_rfl) (by kernel_rfl) (by kernel_rfl) (by decide)
abbrev n_laws_eqTermSS : Nat := 125
theorem fn_laws_eqTermSS : FnAt PP 125 (Tryz.f125.body.getD .skip) 27 [.tmp 4] := FnAt.of (fn := Tryz.f125) (by kernel_rfl) (by kernel_rfl) (by kernel_rfl) (by kernel_rfl) (by kernel_rfl) (by decide)
abbrev n_laws_eqFile : Nat := 126
theorem fn_laws_eqFile : FnAt PP 126 (Tryz.f126.body.getD .skip) 16 [.tmp 4] := FnAt.of (fn := Tryz.f126) (by kernel_rfl) (by kernel_rfl) (by kernel_rfl) (by kernel_rfl) (by kernel_rfl) (by decide)
abbrev n_spec_l3Faults : Nat := 128
theorem fn_spec_l3Faults : FnAt PP 128 (Tryz.f128.body.getD .skip) 103 [.tmp 4] := FnAt.of (fn := Tryz.f128) (by kernel_rfl) (by kernel_rfl) (by kernel_rfl) (by kernel_rfl) (by kernel_rfl) (by decide)
abbrev n_spec_l8Same : Nat := 129
theorem fn_spec_l8Same : FnAt PP 129 (Tryz.f129.body.getD .skip) 10 [.tmp 4] := FnAt.of (fn := Tryz.f129) (by kernel_rfl) (by kernel_rfl) (by kernel_rfl) (by kernel_rfl) (by kernel_rfl) (by decide)
abbrev n_spec_l1Digit : Nat := 130
theorem fn_spec_l1Digit : FnAt PP 130 (Tryz.f130.body.getD .skip) 9 [.tmp 2] := FnAt.of (fn := Tryz.f130) (by kernel_rfl) (by kernel_rfl) (by kernel_rfl) (by kernel_rfl) (by kernel_rfl) (by decide)
abbrev n_spec_l7Paths : Nat := 131
theorem fn_spec_l7Paths : FnAt PP 131 (Tryz.f131.body.getD .skip) 39 [.tmp 4] := FnAt.of (fn := Tryz.f131) (by kernel_rfl) (by kernel_rfl) (by kernel_rfl) (by kernel_rfl) (by kernel_rfl) (by decide)
abbrev n_spec_l2Lines : Nat := 132
theorem fn_spec_l2Lines : FnAt PP 132 (Tryz.f132.body.getD .skip) 19 [.tmp 2] := FnAt.of (fn := Tryz.f132) (by kernel_rfl) (by kernel_rfl) (by kernel_rfl) (by kernel_rfl) (by kernel_rfl) (by decide)
abbrev n_spec_ParseTerm : Nat := 133
theorem fn_spec_ParseTerm : FnAt PP 133 (Tryz.f133.body.getD .skip) 97 [.cell 2 140] := FnAt.of (fn := Tryz.f133) (by kernel_rfl) (by kernel_rfl) (by kernel_rfl) (by kernel_rfl) (by kernel_rfl) (by decide)
abbrev n_spec_l8Text : Nat := 134
theorem fn_spec_l8Text : FnAt PP 134 (Tryz.f134.body.getD .skip) 20 [.tmp 2] := FnAt.of (fn := Tryz.f134) (by kernel_rfl) (by kernel_rfl) (by kernel_rfl) (by kernel_rfl) (by kernel_rfl) (by decide)
abbrev n_spec_NameFault : Nat := 135
theorem fn_spec_NameFault : FnAt PP 135 (Tryz.f135.body.getD .skip) 29 [.tmp 2] := FnAt.of (fn := Tryz.f135) (by kernel_rfl) (by kernel_rfl) (by kernel_rfl) (by kernel_rfl) (by kernel_rfl) (by decide)
abbrev n_spec_l1Sign : Nat := 136
theorem fn_spec_l1Sign : FnAt PP 136 (Tryz.f136.body.getD .skip) 11 [.tmp 4] := FnAt.of (fn := Tryz.f136) (by kernel_rfl) (by kernel_rfl) (by kernel_rfl) (by kernel_rfl) (by kernel_rfl) (by decide)
abbrev n_spec_l3Parse : Nat := 137
theorem fn_spec_l3Parse : FnAt PP 137 (Tryz.f137.body.getD .skip) 60 [.cell 4 74] := FnAt.of (fn := Tryz.f137) (by kernel_rfl) (by kernel_rfl) (by kernel_rfl) (by kernel_rfl) (by kernel_rfl) (by decide)
abbrev n_impl_consistent : Nat := 138
theorem fn_impl_consistent : FnAt PP 138 (Tryz.f138.body.getD .skip) 10 [.tmp 4] := FnAt.of (fn := Tryz.f138) (by kernel_rfl) (by kernel_rfl) (by kernel_rfl) (by kernel_rfl) (by kernel_rfl) (by decide)
abbrev n_impl_lacking : Nat := 139
theorem fn_impl_lacking : FnAt PP 139 (Tryz.f139.body.getD .skip) 10 [.tmp 6] := FnAt.of (fn := Tryz.f139) (by kernel_rfl) (by kernel_rfl) (by kernel_rfl) (by kernel_rfl) (by kernel_rfl) (by decide)
abbrev n_impl_Disk_place : Nat := 140
theorem fn_impl_Disk_place : FnAt PP 140 (Tryz.f140.body.getD .skip) 12 [.tmp 4, .tmp 5] := FnAt.of (fn := Tryz.f140) (by kernel_rfl) (by kernel_rfl) (by kernel_rfl) (by kernel_rfl) (by kernel_rfl) (by decide)
abbrev n_slices_Index_L_int64_int64 : Nat := 141
theorem fn_slices_Index_L_int64_int64 : FnAt PP 141 (Tryz.f141.body.getD .skip) 19 [.tmp 4] := FnAt.of (fn := Tryz.f141) (by kernel_rfl) (by kernel_rfl) (by kernel_rfl) (by kernel_rfl) (by kernel_rfl) (by decide)
abbrev n_impl_Disk_paths : Nat := 142
theorem fn_impl_Disk_paths : FnAt PP 142 (Tryz.f142.body.getD .skip) 27 [.tmp 4] := FnAt.of (fn := Tryz.f142) (by kernel_rfl) (by kernel_rfl) (by kernel_rfl) (by kernel_rfl) (by kernel_rfl) (by decide)
abbrev n_strings_Split : Nat := 144
theorem fn_strings_Split : FnAt PP 144 (Tryz.f144.body.getD .skip) 8 [.tmp 4] := FnAt.of (fn := Tryz.f144) (by kernel_rfl) (by kernel_rfl) (by kernel_rfl) (by kernel_rfl) (by kernel_rfl) (by decide)
abbrev n_impl_isNameByte : Nat := 145
theorem fn_impl_isNameByte : FnAt PP 145 (Tryz.f145.body.getD .skip) 21 [.tmp 2] := FnAt.of (fn := Tryz.f145) (by kernel_rfl) (by kernel_rfl) (by kernel_rfl) (by kernel_rfl) (by kernel_rfl) (by decide)
abbrev n_impl_AnyTerm : Nat := 146
theorem fn_impl_AnyTerm : FnAt PP 146 (Tryz.f146.body.getD .skip) 6 [.cell 2 71] := FnAt.of (fn := Tryz.f146) (by kernel_rfl) (by kernel_rfl) (by kernel_rfl) (by kernel_rfl) (by kernel_rfl) (by decide)
abbrev n_impl_NameFault : Nat := 147
theorem fn_impl_NameFault : FnAt PP 147 (Tryz.f147.body.getD .skip) 33 [.tmp 2] := FnAt.of (fn := Tryz.f147) (by kernel_rfl) (by kernel_rfl) (by kernel_rfl) (by kernel_rfl) (by kernel_rfl) (by decide)
abbrev n_strings_CutPrefix : Nat := 148
theorem fn_strings_CutPrefix : FnAt PP 148 (Tryz.f148.body.getD .skip) 11 [.tmp 4, .tmp 5] := FnAt.of (fn := Tryz.f148) (by kernel_rfl) (by kernel_rfl) (by kernel_rfl) (by kernel_rfl) (by kernel_rfl) (by decide)
abbrev n_strings_IndexByte : Nat := 149
theorem fn_strings_IndexByte : FnAt PP 149 (Tryz.f149.body.getD .skip) 8 [.tmp 4] := FnAt.of (fn := Tryz.f149) (by kernel_rfl) (by kernel_rfl) (by kernel_rfl) (by kernel_rfl) (by kernel_rfl) (by decide)
abbrev n_impl_ParseVersion : Nat := 150
theorem fn_impl_ParseVersion : FnAt PP 150 (Tryz.f150.body.getD .skip) 39 [.cell 2 191] := FnAt.of (fn := Tryz.f150) (by kernel_rfl) (by kernel_rfl) (by kernel_rfl) (by kernel_rfl) (by kernel_rfl) (by decide)
abbrev n_slices_ContainsFunc_L_impl_Term_impl_Term : Nat := 151
theorem fn_slices_ContainsFunc_L_impl_Term_impl_Term : FnAt PP 151 (Tryz.f151.body.getD .skip) 9 [.tmp 4] := FnAt.of (fn := Tryz.f151) (by kernel_rfl) (by kernel_rfl) (by kernel_rfl) (by kernel_rfl) (by kernel_rfl) (by decide)
abbrev n_impl_twoOfOne_1 : Nat := 152
theorem fn_impl_twoOfOne_1 : FnAt PP 152 (Tryz.f152.body.getD .skip) 9 [.tmp 3] := FnAt.of (fn := Tryz.f152) (by kernel_rfl) (by kernel_rfl) (by kernel_rfl) (by kernel_rfl) (by kernel_rfl) (by decide)
abbrev n_impl_VersionFault : Nat := 153
theorem fn_impl_VersionFault : FnAt PP 153 (Tryz.f153.body.getD .skip) 19 [.tmp 2] := FnAt.of (fn := Tryz.f153) (by kernel_rfl) (by kernel_rfl) (by kernel_rfl) (by kernel_rfl) (by kernel_rfl) (by decide)
abbrev n_impl_compare : Nat := 154
theorem fn_impl_compare : FnAt PP 154 (Tryz.f154.body.getD .skip) 22 [.tmp 4] := FnAt.of (fn := Tryz.f154) (by kernel_rfl) (by kernel_rfl) (by kernel_rfl) (by kernel_rfl) (by kernel_rfl) (by decide)
abbrev n_impl_genPath : Nat := 155
theorem fn_impl_genPath : FnAt PP 155 (Tryz.f155.body.getD .skip) 13 [.tmp 2] := FnAt.of (fn := Tryz.f155) (by kernel_rfl) (by kernel_rfl) (by kernel_rfl) (by kernel_rfl) (by kernel_rfl) (by decide)
abbrev n_impl_ParseSet : Nat := 156
theorem fn_impl_ParseSet : FnAt PP 156 (Tryz.f156.body.getD .skip) 51 [.cell 4 74] := FnAt.of (fn := Tryz.f156) (by kernel_rfl) (by kernel_rfl) (by kernel_rfl) (by kernel_rfl) (by kernel_rfl) (by decide)
abbrev n_laws_szByteS : Nat := 160
theorem fn_laws_szByteS : FnAt PP 160 (Tryz.f160.body.getD .skip) 12 [.tmp 4] := FnAt.of (fn := Tryz.f160) (by kernel_rfl) (by kernel_rfl) (by kernel_rfl) (by kernel_rfl) (by kernel_rfl) (by decide)
abbrev n_spec_PackFault : Nat := 161
theorem fn_spec_PackFault : FnAt PP 161 (Tryz.f161.body.getD .skip) 118 [.tmp 2] := FnAt.of (fn := Tryz.f161) (by kernel_rfl) (by kernel_rfl) (by kernel_rfl) (by kernel_rfl) (by kernel_rfl) (by decide)
abbrev n_spec_l2Find : Nat := 162
theorem fn_spec_l2Find : FnAt PP 162 (Tryz.f162.body.getD .skip) 32 [.tmp 6] := FnAt.of (fn := Tryz.f162) (by kernel_rfl) (by kernel_rfl) (by kernel_rfl) (by kernel_rfl) (by kernel_rfl) (by decide)
abbrev n_spec_PathFault : Nat := 163
theorem fn_spec_PathFault : FnAt PP 163 (Tryz.f163.body.getD .skip) 23 [.tmp 2] := FnAt.of (fn := Tryz.f163) (by kernel_rfl) (by kernel_rfl) (by kernel_rfl) (by kernel_rfl) (by kernel_rfl) (by decide)
abbrev n_laws_toByteS : Nat := 164
theorem fn_laws_toByteS : FnAt PP 164 (Tryz.f164.body.getD .skip) 22 [.tmp 2] := FnAt.of (fn := Tryz.f164) (by kernel_rfl) (by kernel_rfl) (by kernel_rfl) (by kernel_rfl) (by kernel_rfl) (by decide)
abbrev n_impl_PackFault : Nat := 165
theorem fn_impl_PackFault : FnAt PP 165 (Tryz.f165.body.getD .skip) 93 [.tmp 2] := FnAt.of (fn := Tryz.f165) (by kernel_rfl) (by kernel_rfl) (by kernel_rfl) (by kernel_rfl) (by kernel_rfl) (by decide)
abbrev n_impl_find : Nat := 166
theorem fn_impl_find : FnAt PP 166 (Tryz.f166.body.getD .skip) 10 [.tmp 6] := FnAt.of (fn := Tryz.f166) (by kernel_rfl) (by kernel_rfl) (by kernel_rfl) (by kernel_rfl) (by kernel_rfl) (by decide)
abbrev n_impl_within : Nat := 167
theorem fn_impl_within : FnAt PP 167 (Tryz.f167.body.getD .skip) 15 [.tmp 6] := FnAt.of (fn := Tryz.f167) (by kernel_rfl) (by kernel_rfl) (by kernel_rfl) (by kernel_rfl) (by kernel_rfl) (by decide)
abbrev n_impl_PathFault : Nat := 168
theorem fn_impl_PathFault : FnAt PP 168 (Tryz.f168.body.getD .skip) 37 [.tmp 2] := FnAt.of (fn := Tryz.f168) (by kernel_rfl) (by kernel_rfl) (by kernel_rfl) (by kernel_rfl) (by kernel_rfl) (by decide)
abbrev n_impl_Pack_path : Nat := 171
theorem fn_impl_Pack_path : FnAt PP 171 (Tryz.f171.body.getD .skip) 11 [.tmp 2] := FnAt.of (fn := Tryz.f171) (by kernel_rfl) (by kernel_rfl) (by kernel_rfl) (by kernel_rfl) (by kernel_rfl) (by decide)
abbrev n_impl_Pack_bytes : Nat := 172
theorem fn_impl_Pack_bytes : FnAt PP 172 (Tryz.f172.body.getD .skip) 47 [.tmp 2] := FnAt.of (fn := Tryz.f172) (by kernel_rfl) (by kernel_rfl) (by kernel_rfl) (by kernel_rfl) (by kernel_rfl) (by decide)
abbrev n_laws_eqByteS : Nat := 174
theorem fn_laws_eqByteS : FnAt PP 174 (Tryz.f174.body.getD .skip) 26 [.tmp 4] := FnAt.of (fn := Tryz.f174) (by kernel_rfl) (by kernel_rfl) (by kernel_rfl) (by kernel_rfl) (by kernel_rfl) (by decide)
abbrev n_spec_l3Met : Nat := 175
theorem fn_spec_l3Met : FnAt PP 175 (Tryz.f175.body.getD .skip) 21 [.tmp 6] := FnAt.of (fn := Tryz.f175) (by kernel_rfl) (by kernel_rfl) (by kernel_rfl) (by kernel_rfl) (by kernel_rfl) (by decide)
abbrev n_spec_l3Given : Nat := 176
theorem fn_spec_l3Given : FnAt PP 176 (Tryz.f176.body.getD .skip) 33 [.tmp 8] := FnAt.of (fn := Tryz.f176) (by kernel_rfl) (by kernel_rfl) (by kernel_rfl) (by kernel_rfl) (by kernel_rfl) (by decide)
abbrev n_spec_l7Begins : Nat := 177
theorem fn_spec_l7Begins : FnAt PP 177 (Tryz.f177.body.getD .skip) 18 [.tmp 4] := FnAt.of (fn := Tryz.f177) (by kernel_rfl) (by kernel_rfl) (by kernel_rfl) (by kernel_rfl) (by kernel_rfl) (by decide)
abbrev n_spec_l1Parts : Nat := 178
theorem fn_spec_l1Parts : FnAt PP 178 (Tryz.f178.body.getD .skip) 36 [.tmp 4] := FnAt.of (fn := Tryz.f178) (by kernel_rfl) (by kernel_rfl) (by kernel_rfl) (by kernel_rfl) (by kernel_rfl) (by decide)
abbrev n_spec_l1Name : Nat := 179
theorem fn_spec_l1Name : FnAt PP 179 (Tryz.f179.body.getD .skip) 13 [.tmp 2] := FnAt.of (fn := Tryz.f179) (by kernel_rfl) (by kernel_rfl) (by kernel_rfl) (by kernel_rfl) (by kernel_rfl) (by decide)
abbrev n_spec_AnyTerm : Nat := 180
theorem fn_spec_AnyTerm : FnAt PP 180 (Tryz.f180.body.getD .skip) 6 [.cell 2 71] := FnAt.of (fn := Tryz.f180) (by kernel_rfl) (by kernel_rfl) (by kernel_rfl) (by kernel_rfl) (by kernel_rfl) (by decide)
abbrev n_spec_ParseVersion : Nat := 181
theorem fn_spec_ParseVersion : FnAt PP 181 (Tryz.f181.body.getD .skip) 47 [.cell 2 191] := FnAt.of (fn := Tryz.f181) (by kernel_rfl) (by kernel_rfl) (by kernel_rfl) (by kernel_rfl) (by kernel_rfl) (by decide)
abbrev n_spec_l1Letter : Nat := 182
theorem fn_spec_l1Letter : FnAt PP 182 (Tryz.f182.body.getD .skip) 9 [.tmp 2] := FnAt.of (fn := Tryz.f182) (by kernel_rfl) (by kernel_rfl) (by kernel_rfl) (by kernel_rfl) (by kernel_rfl) (by decide)
abbrev n_spec_l2Words : Nat := 183
theorem fn_spec_l2Words : FnAt PP 183 (Tryz.f183.body.getD .skip) 28 [.tmp 2] := FnAt.of (fn := Tryz.f183) (by kernel_rfl) (by kernel_rfl) (by kernel_rfl) (by kernel_rfl) (by kernel_rfl) (by decide)
abbrev n_spec_l3Put : Nat := 184
theorem fn_spec_l3Put : FnAt PP 184 (Tryz.f184.body.getD .skip) 43 [.tmp 4] := FnAt.of (fn := Tryz.f184) (by kernel_rfl) (by kernel_rfl) (by kernel_rfl) (by kernel_rfl) (by kernel_rfl) (by decide)
abbrev n_impl_faults : Nat := 185
theorem fn_impl_faults : FnAt PP 185 (Tryz.f185.body.getD .skip) 77 [.tmp 4] := FnAt.of (fn := Tryz.f185) (by kernel_rfl) (by kernel_rfl) (by kernel_rfl) (by kernel_rfl) (by kernel_rfl) (by decide)
abbrev n_impl_those : Nat := 186
theorem fn_impl_those : FnAt PP 186 (Tryz.f186.body.getD .skip) 9 [.tmp 4] := FnAt.of (fn := Tryz.f186) (by kernel_rfl) (by kernel_rfl) (by kernel_rfl) (by kernel_rfl) (by kernel_rfl) (by decide)
abbrev n_impl_lacking_1 : Nat := 187
theorem fn_impl_lacking_1 : FnAt PP 187 (Tryz.f187.body.getD .skip) 29 [.tmp 4] := FnAt.of (fn := Tryz.f187) (by kernel_rfl) (by kernel_rfl) (by kernel_rfl) (by kernel_rfl) (by kernel_rfl) (by decide)
abbrev n_slices_Equal_L_byte_byte : Nat := 188
theorem fn_slices_Equal_L_byte_byte : FnAt PP 188 (Tryz.f188.body.getD .skip) 26 [.tmp 4] := FnAt.of (fn := Tryz.f188) (by kernel_rfl) (by kernel_rfl) (by kernel_rfl) (by kernel_rfl) (by kernel_rfl) (by decide)
abbrev n_slices_BinarySearchFunc_L_impl_File_impl_File_string : Nat := 189
theorem fn_slices_BinarySearchFunc_L_impl_File_impl_File_string : FnAt PP 189 (Tryz.f189.body.getD .skip) 49 [.tmp 6, .tmp 7] := FnAt.of (fn := Tryz.f189) (by kernel_rfl) (by kernel_rfl) (by kernel_rfl) (by kernel_rfl) (by kernel_rfl) (by decide)
abbrev n_impl_Disk_place_1 : Nat := 190
theorem fn_impl_Disk_place_1 : FnAt PP 190 (Tryz.f190.body.getD .skip) 9 [.tmp 4] := FnAt.of (fn := Tryz.f190) (by kernel_rfl) (by kernel_rfl) (by kernel_rfl) (by kernel_rfl) (by kernel_rfl) (by decide)
abbrev n_strings_Compare : Nat := 191
theorem fn_strings_Compare : FnAt PP 191 (Tryz.f191.body.getD .skip) 8 [.tmp 4] := FnAt.of (fn := Tryz.f191) (by kernel_rfl) (by kernel_rfl) (by kernel_rfl) (by kernel_rfl) (by kernel_rfl) (by decide)
abbrev n_strings_HasPrefix : Nat := 192
theorem fn_strings_HasPrefix : FnAt PP 192 (Tryz.f192.body.getD .skip) 8 [.tmp 4] := FnAt.of (fn := Tryz.f192) (by kernel_rfl) (by kernel_rfl) (by kernel_rfl) (by kernel_rfl) (by kernel_rfl) (by decide)
abbrev n_strings_genSplit : Nat := 197
theorem fn_strings_genSplit : FnAt PP 197 (Tryz.f197.body.getD .skip) 66 [.tmp 8] := FnAt.of (fn := Tryz.f197) (by kernel_rfl) (by kernel_rfl) (by kernel_rfl) (by kernel_rfl) (by kernel_rfl) (by decide)
abbrev n_slices_IndexFunc_L_impl_Term_impl_Term : Nat := 200
theorem fn_slices_IndexFunc_L_impl_Term_impl_Term : FnAt PP 200 (Tryz.f200.body.getD .skip) 19 [.tmp 4] := FnAt.of (fn := Tryz.f200) (by kernel_rfl) (by kernel_rfl) (by kernel_rfl) (by kernel_rfl) (by kernel_rfl) (by decide)
abbrev n_cmp_Or_int : Nat := 201
theorem fn_cmp_Or_int : FnAt PP 201 (Tryz.f201.body.getD .skip) 18 [.tmp 2] := FnAt.of (fn := Tryz.f201) (by kernel_rfl) (by kernel_rfl) (by kernel_rfl) (by kernel_rfl) (by kernel_rfl) (by decide)
abbrev n_cmp_Compare_int64 : Nat := 202
theorem fn_cmp_Compare_int64 : FnAt PP 202 (Tryz.f202.body.getD .skip) 20 [.tmp 4] := FnAt.of (fn := Tryz.f202) (by kernel_rfl) (by kernel_rfl) (by kernel_rfl) (by kernel_rfl) (by kernel_rfl) (by decide)
abbrev n_strings_Repeat : Nat := 203
theorem fn_strings_Repeat : FnAt PP 203 (Tryz.f203.body.getD .skip) 125 [.tmp 4] := FnAt.of (fn := Tryz.f203) (by kernel_rfl) (by kernel_rfl) (by kernel_rfl) (by kernel_rfl) (by kernel_rfl) (by decide)
abbrev n_impl_readPack : Nat := 204
theorem fn_impl_readPack : FnAt PP 204 (Tryz.f204.body.getD .skip) 23 [.tmp 4] := FnAt.of (fn := Tryz.f204) (by kernel_rfl) (by kernel_rfl) (by kernel_rfl) (by kernel_rfl) (by kernel_rfl) (by decide)
abbrev n_impl_wordsOf : Nat := 205
theorem fn_impl_wordsOf : FnAt PP 205 (Tryz.f205.body.getD .skip) 6 [.tmp 2] := FnAt.of (fn := Tryz.f205) (by kernel_rfl) (by kernel_rfl) (by kernel_rfl) (by kernel_rfl) (by kernel_rfl) (by decide)
abbrev n_slices_Sort_L_int64_int64 : Nat := 206
theorem fn_slices_Sort_L_int64_int64 : FnAt PP 206 (Tryz.f206.body.getD .skip) 11 [] := FnAt.of (fn := Tryz.f206) (by kernel_rfl) (by kernel_rfl) (by kernel_rfl) (by kernel_rfl) (by kernel_rfl) (by decide)
abbrev n_spec_l2Holds : Nat := 209
theorem fn_spec_l2Holds : FnAt PP 209 (Tryz.f209.body.getD .skip) 18 [.tmp 4] := FnAt.of (fn := Tryz.f209) (by kernel_rfl) (by kernel_rfl) (by kernel_rfl) (by kernel_rfl) (by kernel_rfl) (by decide)
abbrev n_spec_l7Byte : Nat := 210
theorem fn_spec_l7Byte : FnAt PP 210 (Tryz.f210.body.getD .skip) 17 [.tmp 2] := FnAt.of (fn := Tryz.f210) (by kernel_rfl) (by kernel_rfl) (by kernel_rfl) (by kernel_rfl) (by kernel_rfl) (by decide)
abbrev n_slices_ContainsFunc_L_L_impl_Term_L_impl_Term : Nat := 211
theorem fn_slices_ContainsFunc_L_L_impl_Term_L_impl_Term : FnAt PP 211 (Tryz.f211.body.getD .skip) 9 [.tmp 4] := FnAt.of (fn := Tryz.f211) (by kernel_rfl) (by kernel_rfl) (by kernel_rfl) (by kernel_rfl) (by kernel_rfl) (by decide)
abbrev n_impl_PackFault_1 : Nat := 212
theorem fn_impl_PackFault_1 : FnAt PP 212 (Tryz.f212.body.getD .skip) 6 [.tmp 2] := FnAt.of (fn := Tryz.f212) (by kernel_rfl) (by kernel_rfl) (by kernel_rfl) (by kernel_rfl) (by kernel_rfl) (by decide)
abbrev n_slices_Contains_L_string_string : Nat := 213
theorem fn_slices_Contains_L_string_string : FnAt PP 213 (Tryz.f213.body.getD .skip) 9 [.tmp 4] := FnAt.of (fn := Tryz.f213) (by kernel_rfl) (by kernel_rfl) (by kernel_rfl) (by kernel_rfl) (by kernel_rfl) (by decide)
abbrev n_slices_IndexFunc_L_impl_Pack_impl_Pack : Nat := 214
theorem fn_slices_IndexFunc_L_impl_Pack_impl_Pack : FnAt PP 214 (Tryz.f214.body.getD .skip) 19 [.tmp 4] := FnAt.of (fn := Tryz.f214) (by kernel_rfl) (by kernel_rfl) (by kernel_rfl) (by kernel_rfl) (by kernel_rfl) (by decide)
abbrev n_impl_find_1 : Nat := 215
theorem fn_impl_find_1 : FnAt PP 215 (Tryz.f215.body.getD .skip) 15 [.tmp 4] := FnAt.of (fn := Tryz.f215) (by kernel_rfl) (by kernel_rfl) (by kernel_rfl) (by kernel_rfl) (by kernel_rfl) (by decide)
abbrev n_slices_ContainsFunc_L_int64_int64 : Nat := 216
theorem fn_slices_ContainsFunc_L_int64_int64 : FnAt PP 216 (Tryz.f216.body.getD .skip) 9 [.tmp 4] := FnAt.of (fn := Tryz.f216) (by kernel_rfl) (by kernel_rfl) (by kernel_rfl) (by kernel_rfl) (by kernel_rfl) (by decide)
abbrev n_spec_l2Gives : Nat := 220
theorem fn_spec_l2Gives : FnAt PP 220 (Tryz.f220.body.getD .skip) 25 [.tmp 4] := FnAt.of (fn := Tryz.f220) (by kernel_rfl) (by kernel_rfl) (by kernel_rfl) (by kernel_rfl) (by kernel_rfl) (by decide)
abbrev n_impl_named : Nat := 221
theorem fn_impl_named : FnAt PP 221 (Tryz.f221.body.getD .skip) 24 [.tmp 6] := FnAt.of (fn := Tryz.f221) (by kernel_rfl) (by kernel_rfl) (by kernel_rfl) (by kernel_rfl) (by kernel_rfl) (by decide)
abbrev n_impl_faults_1 : Nat := 222
theorem fn_impl_faults_1 : FnAt PP 222 (Tryz.f222.body.getD .skip) 11 [.tmp 4] := FnAt.of (fn := Tryz.f222) (by kernel_rfl) (by kernel_rfl) (by kernel_rfl) (by kernel_rfl) (by kernel_rfl) (by decide)
abbrev n_impl_Pack_givesOne : Nat := 223
theorem fn_impl_Pack_givesOne : FnAt PP 223 (Tryz.f223.body.getD .skip) 9 [.tmp 4] := FnAt.of (fn := Tryz.f223) (by kernel_rfl) (by kernel_rfl) (by kernel_rfl) (by kernel_rfl) (by kernel_rfl) (by decide)
abbrev n_impl_faults_2 : Nat := 224
theorem fn_impl_faults_2 : FnAt PP 224 (Tryz.f224.body.getD .skip) 17 [.tmp 5] := FnAt.of (fn := Tryz.f224) (by kernel_rfl) (by kernel_rfl) (by kernel_rfl) (by kernel_rfl) (by kernel_rfl) (by decide)
abbrev n_impl_Pack_gives : Nat := 225
theorem fn_impl_Pack_gives : FnAt PP 225 (Tryz.f225.body.getD .skip) 9 [.tmp 4] := FnAt.of (fn := Tryz.f225) (by kernel_rfl) (by kernel_rfl) (by kernel_rfl) (by kernel_rfl) (by kernel_rfl) (by decide)
abbrev n_slices_DeleteFunc_L_int64_int64 : Nat := 226
theorem fn_slices_DeleteFunc_L_int64_int64 : FnAt PP 226 (Tryz.f226.body.getD .skip) 42 [.tmp 4] := FnAt.of (fn := Tryz.f226) (by kernel_rfl) (by kernel_rfl) (by kernel_rfl) (by kernel_rfl) (by kernel_rfl) (by decide)
abbrev n_slices_Clone_L_int64_int64 : Nat := 227
theorem fn_slices_Clone_L_int64_int64 : FnAt PP 227 (Tryz.f227.body.getD .skip) 8 [.tmp 2] := FnAt.of (fn := Tryz.f227) (by kernel_rfl) (by kernel_rfl) (by kernel_rfl) (by kernel_rfl) (by kernel_rfl) (by decide)
abbrev n_impl_those_1 : Nat := 228
theorem fn_impl_those_1 : FnAt PP 228 (Tryz.f228.body.getD .skip) 8 [.tmp 3] := FnAt.of (fn := Tryz.f228) (by kernel_rfl) (by kernel_rfl) (by kernel_rfl) (by kernel_rfl) (by kernel_rfl) (by decide)
abbrev n_cmp_isNaN_int64 : Nat := 240
theorem fn_cmp_isNaN_int64 : FnAt PP 240 (Tryz.f240.body.getD .skip) 6 [.tmp 2] := FnAt.of (fn := Tryz.f240) (by kernel_rfl) (by kernel_rfl) (by kernel_rfl) (by kernel_rfl) (by kernel_rfl) (by decide)
abbrev n_slices_DeleteFunc_L_string_string : Nat := 243
theorem fn_slices_DeleteFunc_L_string_string : FnAt PP 243 (Tryz.f243.body.getD .skip) 42 [.tmp 4] := FnAt.of (fn := Tryz.f243) (by kernel_rfl) (by kernel_rfl) (by kernel_rfl) (by kernel_rfl) (by kernel_rfl) (by decide)
abbrev n_impl_wordsOf_1 : Nat := 244
theorem fn_impl_wordsOf_1 : FnAt PP 244 (Tryz.f244.body.getD .skip) 5 [.tmp 2] := FnAt.of (fn := Tryz.f244) (by kernel_rfl) (by kernel_rfl) (by kernel_rfl) (by kernel_rfl) (by kernel_rfl) (by decide)
abbrev n_slices_IndexFunc_L_L_impl_Term_L_impl_Term : Nat := 249
theorem fn_slices_IndexFunc_L_L_impl_Term_L_impl_Term : FnAt PP 249 (Tryz.f249.body.getD .skip) 19 [.tmp 4] := FnAt.of (fn := Tryz.f249) (by kernel_rfl) (by kernel_rfl) (by kernel_rfl) (by kernel_rfl) (by kernel_rfl) (by decide)
abbrev n_slices_Index_L_string_string : Nat := 250
theorem fn_slices_Index_L_string_string : FnAt PP 250 (Tryz.f250.body.getD .skip) 19 [.tmp 4] := FnAt.of (fn := Tryz.f250) (by kernel_rfl) (by kernel_rfl) (by kernel_rfl) (by kernel_rfl) (by kernel_rfl) (by decide)
abbrev n_slices_IndexFunc_L_int64_int64 : Nat := 251
theorem fn_slices_IndexFunc_L_int64_int64 : FnAt PP 251 (Tryz.f251.body.getD .skip) 19 [.tmp 4] := FnAt.of (fn := Tryz.f251) (by kernel_rfl) (by kernel_rfl) (by kernel_rfl) (by kernel_rfl) (by kernel_rfl) (by decide)
abbrev n_spec_l1InTerm : Nat := 253
theorem fn_spec_l1InTerm : FnAt PP 253 (Tryz.f253.body.getD .skip) 25 [.tmp 6] := FnAt.of (fn := Tryz.f253) (by kernel_rfl) (by kernel_rfl) (by kernel_rfl) (by kernel_rfl) (by kernel_rfl) (by decide)
abbrev n_slices_ContainsFunc_L_string_string : Nat := 254
theorem fn_slices_ContainsFunc_L_string_string : FnAt PP 254 (Tryz.f254.body.getD .skip) 9 [.tmp 4] := FnAt.of (fn := Tryz.f254) (by kernel_rfl) (by kernel_rfl) (by kernel_rfl) (by kernel_rfl) (by kernel_rfl) (by decide)
abbrev n_impl_Pack_names : Nat := 255
theorem fn_impl_Pack_names : FnAt PP 255 (Tryz.f255.body.getD .skip) 9 [.tmp 2] := FnAt.of (fn := Tryz.f255) (by kernel_rfl) (by kernel_rfl) (by kernel_rfl) (by kernel_rfl) (by kernel_rfl) (by decide)
abbrev n_impl_Pack_gives_1 : Nat := 256
theorem fn_impl_Pack_gives_1 : FnAt PP 256 (Tryz.f256.body.getD .skip) 10 [.tmp 4] := FnAt.of (fn := Tryz.f256) (by kernel_rfl) (by kernel_rfl) (by kernel_rfl) (by kernel_rfl) (by kernel_rfl) (by decide)
abbrev n_impl_Term_has : Nat := 257
theorem fn_impl_Term_has : FnAt PP 257 (Tryz.f257.body.getD .skip) 25 [.tmp 6] := FnAt.of (fn := Tryz.f257) (by kernel_rfl) (by kernel_rfl) (by kernel_rfl) (by kernel_rfl) (by kernel_rfl) (by decide)
abbrev n_slices_IndexFunc_L_string_string : Nat := 267
theorem fn_slices_IndexFunc_L_string_string : FnAt PP 267 (Tryz.f267.body.getD .skip) 19 [.tmp 4] := FnAt.of (fn := Tryz.f267) (by kernel_rfl) (by kernel_rfl) (by kernel_rfl) (by kernel_rfl) (by kernel_rfl) (by decide)
end Go.Proofs.YtgcnggefeapalaaGreatDoor

/- The program's data as plain data, and how memory tells of them. Definitions. -/
set_option linter.unusedVariables false
namespace Go.Proofs.YtgcnggefeapalaaGreatDoor
open Go Go.Fw
def i64 (x : Int) : A := .sc (.int .i64 x)
def boo (x : Bool) : A := .sc (.bool x)
def str (x : List UInt8) : A := .sc (.string (mkS x))
structure Ver where
  a : Int
  b : Int
  c : Int
  deriving DecidableEq
def Ver.cells (v : Ver) : List A := [i64 v.a, i64 v.b, i64 v.c]
def Ver.enc (v : Ver) : A := .agg v.cells
def Ver.zero : Ver := ⟨0, 0, 0⟩
structure Chg where
  k : Int
  n : List UInt8
  o : Ver
  w : Ver
  deriving DecidableEq
/-! Sizes. -/
def szLoop {α : Type} (f : α → Int → Int) : List α → Int → Int
  | [], l => l
  | c :: cs, l => if f c l < 0 then -1 else szLoop f cs (f c l)
def szS {α : Type} (f : α → Int → Int) (cs : List α) (l : Int) : Int := if l - cs.length < 0 then -1 else szLoop f cs (l - cs.length)
theorem szw {n : Nat} {l : Int} (h0 : 0 ≤ l) (h1 : l ≤ 1048576) (hm : n ≤ maxLen) : IntKind.i64.wrap (l - n) = l - n := by
  simp only [maxLen] at hm
  exact wrap64 (by omega) (by omega)
theorem inc64 {n : Nat} (h : n < 9223372036854775807) : IntKind.i64.wrap ((n : Int) + 1) = ((n + 1 : Nat) : Int) := by rw [wrap64 (by omega) (by omega)]; omega
theorem szLoop_at {α : Type} (f : α → Int → Int) {cs : List α} {i : Nat} {c : α} (h : cs[i]? = some c) (l : Int) : szLoop f (cs.drop i) l = if f c l < 0 then -1 else szLoop f (cs.drop (i + 1)) (f c l) := by
  obtain ⟨h1, h2⟩ := List.getElem?_eq_some_iff.1 h
  rw [List.drop_eq_getElem_cons h1, h2, szLoop]

/-! Steps that all loops have. -/
section
variable {Ω : Opq}
theorem ltI (hΩ : Ω = std) {i : Nat} {xs : List A} (h : Ω.cmp .lss (Ω.int i) (Ω.int (Ω.len xs)) = true) : i < xs.length := by
  subst hΩ
  have h : (i : Int) < xs.length := lt_t h
  omega
theorem geI (hΩ : Ω = std) {i : Nat} {xs : List A} (h : Ω.cmp .lss (Ω.int i) (Ω.int (Ω.len xs)) = false) : xs.length ≤ i := by
  subst hΩ
  have h : (xs.length : Int) ≤ i := lt_f h
  omega
theorem ltN (hΩ : Ω = std) {i n : Nat} (h : Ω.cmp .lss (Ω.int i) (Ω.int n) = true) : i < n := by
  subst hΩ
  have h : (i : Int) < n := lt_t h
  omega
theorem geN (hΩ : Ω = std) {i n : Nat} (h : Ω.cmp .lss (Ω.int i) (Ω.int n) = false) : n ≤ i := by
  subst hΩ
  have h : (n : Int) ≤ i := lt_f h
  omega
theorem nnI (hΩ : Ω = std) {i : Nat} : 0 ≤ Ω.int i := by subst hΩ; exact Int.natCast_nonneg i
theorem rdI (hΩ : Ω = std) {α : Type} {f : α → A} {cs : List α} {xs : List A} {i : Nat} {c : α} (hxs : xs = cs.map f) (hc : cs[i]? = some c) : xs[(Ω.int i).toNat]? = some (f c) := by
  subst hΩ
  show xs[i]? = _
  rw [hxs, List.getElem?_map, hc]; rfl
theorem incI (hΩ : Ω = std) {i : Nat} (h : i < 9223372036854775807) : i64 (Ω.ar .add .i64 (Ω.int i) 1) = i64 (Ω.int (i + 1)) := by subst hΩ; exact congrArg i64 (inc64 h)
theorem zeroI (hΩ : Ω = std) : i64 0 = i64 (Ω.int 0) := by subst hΩ; rfl
theorem notT (hΩ : Ω = std) (h : Ω.not true = true) : False := by subst hΩ; cases (show (!true) = true from h)
theorem notF (hΩ : Ω = std) (h : Ω.not false = false) : False := by subst hΩ; cases (show (!false) = false from h)
theorem ne_self (hΩ : Ω = std) {x : Int} (h : Ω.cmp .neq x x = true) : False := by subst hΩ; exact ne_t h rfl
theorem sne_self (hΩ : Ω = std) {x : List UInt8} (h : Ω.cmpS .neq x x = true) : False := by subst hΩ; exact sne_t h rfl
end
theorem okAll {xs : List A} (h : (flat xs).all okCell = true) : ∀ c ∈ flat xs, okCell c = true := List.all_eq_true.1 h
theorem eqI_t {Ω : Opq} (hΩ : Ω = std) {x y : Int} (h : Ω.cmp .eql x y = true) : x = y := by subst hΩ; exact eq_t h
theorem eqI_f {Ω : Opq} (hΩ : Ω = std) {x y : Int} (h : Ω.cmp .eql x y = false) : x ≠ y := by subst hΩ; exact eq_f h
theorem neI_t {Ω : Opq} (hΩ : Ω = std) {x y : Int} (h : Ω.cmp .neq x y = true) : x ≠ y := by subst hΩ; exact ne_t h
theorem neI_f {Ω : Opq} (hΩ : Ω = std) {x y : Int} (h : Ω.cmp .neq x y = false) : x = y := by subst hΩ; exact ne_f h
theorem geI_t {Ω : Opq} (hΩ : Ω = std) {x y : Int} (h : Ω.cmp .geq x y = true) : y ≤ x := by subst hΩ; exact ge_t h
theorem geI_f {Ω : Opq} (hΩ : Ω = std) {x y : Int} (h : Ω.cmp .geq x y = false) : x < y := by subst hΩ; exact ge_f h
theorem ltI_t {Ω : Opq} (hΩ : Ω = std) {x y : Int} (h : Ω.cmp .lss x y = true) : x < y := by subst hΩ; exact lt_t h
theorem ltI_f {Ω : Opq} (hΩ : Ω = std) {x y : Int} (h : Ω.cmp .lss x y = false) : y ≤ x := by subst hΩ; exact lt_f h
theorem gtI_t {Ω : Opq} (hΩ : Ω = std) {x y : Int} (h : Ω.cmp .gtr x y = true) : y < x := by subst hΩ; exact gt_t h
theorem gtI_f {Ω : Opq} (hΩ : Ω = std) {x y : Int} (h : Ω.cmp .gtr x y = false) : x ≤ y := by subst hΩ; exact gt_f h
theorem ixI {Ω : Opq} (hΩ : Ω = std) {i n : Nat} (h : i < n) : 0 ≤ Ω.int i ∧ Ω.int i < (n : Int) := by subst hΩ; exact ⟨Int.natCast_nonneg i, Int.ofNat_lt.2 h⟩
theorem atI {Ω : Opq} (hΩ : Ω = std) {i : Nat} {xs : List A} {z : A} (h : xs[i]? = some z) : xs[Ω.plus 0 (Ω.nat (Ω.int i))]? = some z := by
  subst hΩ; show xs[0 + i]? = _; rw [Nat.zero_add]; exact h
theorem at_of {α : Type} {cs : List α} {i : Nat} (h : i < cs.length) : ∃ c, cs[i]? = some c := ⟨_, List.getElem?_eq_getElem h⟩
theorem hmo : PP.follows .mixedOrders = true := by kernel_rfl
end Go.Proofs.YtgcnggefeapalaaGreatDoor

/- Packages, terms, and what the program's functions say of them, as plain functions. Definitions and plain theorems. -/
set_option linter.unusedVariables false
set_option linter.unusedSimpArgs false
namespace Go.Proofs.YtgcnggefeapalaaGreatDoor
open Go Go.Fw
structure Trm where
  n : List UInt8
  l : Ver
  h : Ver
  deriving DecidableEq
def Trm.cells (t : Trm) : List A := [str t.n, i64 t.l.a, i64 t.l.b, i64 t.l.c, i64 t.h.a, i64 t.h.b, i64 t.h.c]
def Trm.enc (t : Trm) : A := .agg t.cells
def Trm.zero : Trm := ⟨[], Ver.zero, Ver.zero⟩
structure Pck where
  n : List UInt8
  v : Ver
  s : Int
  p : List (List UInt8)
  d : List (List Trm)
  b : List Trm
  deriving DecidableEq
def encTs (o : Bool) (l : List Trm) : A := .sl o 7 (l.map Trm.enc)
def Pck.cells (o : Bool) (p : Pck) : List A := [str p.n, i64 p.v.a, i64 p.v.b, i64 p.v.c, i64 p.s, .sl o 1 (p.p.map str), .sl o 1 (p.d.map (encTs o)), .sl o 7 (p.b.map Trm.enc)]
def Pck.enc (o : Bool) (p : Pck) : A := .agg (p.cells o)

/-! What the program's functions say. -/
def letterB (c : UInt8) : Bool := decide (97 ≤ (c.toNat : Int)) && decide ((c.toNat : Int) ≤ 122)
def digitB (c : UInt8) : Bool := decide (48 ≤ (c.toNat : Int)) && decide ((c.toNat : Int) ≤ 57)
def nameB (c : UInt8) : Bool := letterB c || (digitB c || decide ((c.toNat : Int) = 95))
def allCode {α : Type} (p : α → Bool) (k : Int) : List α → Int
  | [] => 0
  | x :: xs => if p x then allCode p k xs else k
def nameF (n : List UInt8) : Int := if (n.length : Int) < 1 then 5 else if (12 : Int) < n.length then 5 else if letterB (n.headD 0) then allCode nameB 5 n else 5
def inB (v l u : Int) : Bool := decide (l ≤ v) && decide (v ≤ u)
def verF (v : Ver) : Int := if inB v.a 0 999 && (inB v.b 0 999 && inB v.c 0 999) then 0 else 3
def sgn (a b : Int) : Int := if a < b then -1 else if b < a then 1 else 0
def cmpV (a b : Ver) : Int := if sgn a.a b.a ≠ 0 then sgn a.a b.a else if sgn a.b b.b ≠ 0 then sgn a.b b.b else sgn a.c b.c
def topV : Ver := ⟨1000, 0, 0⟩
def trmF (t : Trm) : Int :=
  if nameF t.n ≠ 0 then nameF t.n else if verF t.l ≠ 0 then verF t.l else if t.h ≠ topV ∧ verF t.h ≠ 0 then 3 else if 0 ≤ cmpV t.l t.h then 1 else 0
def hasB (t : Trm) (n : List UInt8) (v : Ver) : Bool := (t.n == n) && (decide (cmpV t.l v ≤ 0) && decide (cmpV v t.h < 0))
/-- The first fault of all. -/
def firstF {α : Type} (f : α → Int) : List α → Int
  | [] => 0
  | x :: xs => if f x ≠ 0 then f x else firstF f xs
def inTop (n : List UInt8) : Trm := ⟨n, Ver.zero, topV⟩
theorem sgn_zero {a b : Int} : sgn a b = 0 ↔ a = b := by
  unfold sgn
  split
  · omega
  · split <;> omega
theorem cmpV_zero {a b : Ver} : cmpV a b = 0 ↔ a = b := by
  obtain ⟨x, y, z⟩ := a
  obtain ⟨x', y', z'⟩ := b
  have h1 := @sgn_zero x x'
  have h2 := @sgn_zero y y'
  have h3 := @sgn_zero z z'
  rw [Ver.mk.injEq, ← h1, ← h2, ← h3]
  unfold cmpV
  dsimp only
  generalize sgn x x' = p
  generalize sgn y y' = q
  generalize sgn z z' = r
  repeat' split
  all_goals omega
theorem sgn_swap (a b : Int) : sgn a b = - sgn b a := by
  unfold sgn
  repeat' split
  all_goals omega
theorem cmpV_swap (a b : Ver) : cmpV a b = - cmpV b a := by
  unfold cmpV
  rw [sgn_swap a.a b.a, sgn_swap a.b b.b, sgn_swap a.c b.c]
  generalize sgn b.a a.a = p
  generalize sgn b.b a.b = q
  generalize sgn b.c a.c = r
  repeat' split
  all_goals omega
theorem firstF_at {α : Type} (f : α → Int) {cs : List α} {i : Nat} {c : α} (h : cs[i]? = some c) : firstF f (cs.drop i) = if f c ≠ 0 then f c else firstF f (cs.drop (i + 1)) := by
  obtain ⟨h1, h2⟩ := List.getElem?_eq_some_iff.1 h
  rw [List.drop_eq_getElem_cons h1, h2, firstF]
theorem allCode_at {α : Type} (p : α → Bool) (k : Int) {cs : List α} {i : Nat} {c : α} (h : cs[i]? = some c) : allCode p k (cs.drop i) = if p c then allCode p k (cs.drop (i + 1)) else k := by
  obtain ⟨h1, h2⟩ := List.getElem?_eq_some_iff.1 h
  rw [List.drop_eq_getElem_cons h1, h2, allCode]
theorem any_at {α : Type} (p : α → Bool) {cs : List α} {i : Nat} {c : α} (h : cs[i]? = some c) : (cs.drop i).any p = (p c || (cs.drop (i + 1)).any p) := by
  obtain ⟨h1, h2⟩ := List.getElem?_eq_some_iff.1 h
  rw [List.drop_eq_getElem_cons h1, h2, List.any_cons]
@[simp] theorem std_cmp (op : BinOp) (x y : Int) : std.cmp op x y = cmpIS op x y := rfl
@[simp] theorem std_cmpS (op : BinOp) (x y : List UInt8) : std.cmpS op x y = cmpSS op x y := rfl
@[simp] theorem std_not (x : Bool) : std.not x = !x := rfl
@[simp] theorem std_ite (b x y : Bool) : std.ite b x y = if b then x else y := rfl
@[simp] theorem std_ar (op : BinOp) (k : IntKind) (x y : Int) : std.ar op k x y = arS op k x y := rfl
@[simp] theorem std_int (n : Nat) : std.int n = (n : Int) := rfl
@[simp] theorem std_len (n : List A) : std.len n = n.length := rfl
@[simp] theorem std_lenS (n : List UInt8) : std.lenS n = n.length := rfl
@[simp] theorem std_u8 (n : UInt8) : std.u8 n = (n.toNat : Int) := rfl
theorem notT' {Ω : Opq} (hΩ : Ω = std) {b : Bool} (h : Ω.not b = true) : b = false := by subst hΩ; simpa using h
theorem notF' {Ω : Opq} (hΩ : Ω = std) {b : Bool} (h : Ω.not b = false) : b = true := by subst hΩ; simpa using h
end Go.Proofs.YtgcnggefeapalaaGreatDoor

/- Walks: bytes, names, versions. Plain theorems. -/
set_option linter.unusedVariables false
set_option linter.unusedSimpArgs false
namespace Go.Proofs.YtgcnggefeapalaaGreatDoor
open Go Go.Fw
set_option maxRecDepth 100000
def u8 (c : UInt8) : A := .sc (.int .u8 (c.toNat : Int))
theorem c_within (v l u : Int) : PCtr PP n_impl_within [i64 v, i64 l, i64 u] (boo (inB v l u)) := by
  obtain ⟨Ω, hΩ⟩ : ∃ Ω, Ω = std := ⟨_, rfl⟩
  obtain ⟨r, hr⟩ : ∃ r, r = inB v l u := ⟨_, rfl⟩
  rw [← hr]
  unfold inB at hr
  have htab := tab
  have hmo := hmo
  refine PCtr.walk tab hΩ fn_impl_within rfl ?_
  generalize PP = P at *
  cbv
  repeat' (first | (refine br (fun h => ?_) (fun h => ?_) <;> cbv) | (refine ⟨VC_drawn htab hΩ hmo (by kernel_rfl) ?_⟩; cbv))
  all_goals (refine .of (congrArg boo ?_); subst hΩ; subst hr; rw [Bool.eq_iff_iff]; simp at *; try omega)
theorem c_l1In (v l u : Int) : PCtr PP n_spec_l1In [i64 v, i64 l, i64 u] (boo (inB v l u)) := by
  obtain ⟨Ω, hΩ⟩ : ∃ Ω, Ω = std := ⟨_, rfl⟩
  obtain ⟨r, hr⟩ : ∃ r, r = inB v l u := ⟨_, rfl⟩
  rw [← hr]
  unfold inB at hr
  have htab := tab
  have hmo := hmo
  refine PCtr.walk tab hΩ fn_spec_l1In rfl ?_
  generalize PP = P at *
  cbv
  repeat' (first | (refine br (fun h => ?_) (fun h => ?_) <;> cbv) | (refine ⟨VC_drawn htab hΩ hmo (by kernel_rfl) ?_⟩; cbv))
  all_goals (refine .of (congrArg boo ?_); subst hΩ; subst hr; rw [Bool.eq_iff_iff]; simp at *; try omega)
theorem c_isNameByte (c : UInt8) : PCtr PP n_impl_isNameByte [u8 c] (boo (nameB c)) := by
  obtain ⟨Ω, hΩ⟩ : ∃ Ω, Ω = std := ⟨_, rfl⟩
  obtain ⟨r, hr⟩ : ∃ r, r = nameB c := ⟨_, rfl⟩
  rw [← hr]
  unfold nameB letterB digitB at hr
  unfold u8
  generalize (c.toNat : Int) = n at *
  have htab := tab
  have hmo := hmo
  refine PCtr.walk tab hΩ fn_impl_isNameByte rfl ?_
  generalize PP = P at *
  cbv
  repeat' (first | (refine br (fun h => ?_) (fun h => ?_) <;> cbv) | (refine ⟨VC_drawn htab hΩ hmo (by kernel_rfl) ?_⟩; cbv))
  all_goals (refine .of (congrArg boo ?_); subst hΩ; subst hr; rw [Bool.eq_iff_iff]; simp at *; try omega)
theorem c_l1Letter (c : UInt8) : PCtr PP n_spec_l1Letter [u8 c] (boo (letterB c)) := by
  obtain ⟨Ω, hΩ⟩ : ∃ Ω, Ω = std := ⟨_, rfl⟩
  obtain ⟨r, hr⟩ : ∃ r, r = letterB c := ⟨_, rfl⟩
  rw [← hr]
  unfold letterB at hr
  unfold u8
  generalize (c.toNat : Int) = n at *
  have htab := tab
  have hmo := hmo
  refine PCtr.walk tab hΩ fn_spec_l1Letter rfl ?_
  generalize PP = P at *
  cbv
  repeat' (first | (refine br (fun h => ?_) (fun h => ?_) <;> cbv) | (refine ⟨VC_drawn htab hΩ hmo (by kernel_rfl) ?_⟩; cbv))
  all_goals (refine .of (congrArg boo ?_); subst hΩ; subst hr; rw [Bool.eq_iff_iff]; simp at *; try omega)
theorem c_l1Digit (c : UInt8) : PCtr PP n_spec_l1Digit [u8 c] (boo (digitB c)) := by
  obtain ⟨Ω, hΩ⟩ : ∃ Ω, Ω = std := ⟨_, rfl⟩
  obtain ⟨r, hr⟩ : ∃ r, r = digitB c := ⟨_, rfl⟩
  rw [← hr]
  unfold digitB at hr
  unfold u8
  generalize (c.toNat : Int) = n at *
  have htab := tab
  have hmo := hmo
  refine PCtr.walk tab hΩ fn_spec_l1Digit rfl ?_
  generalize PP = P at *
  cbv
  repeat' (first | (refine br (fun h => ?_) (fun h => ?_) <;> cbv) | (refine ⟨VC_drawn htab hΩ hmo (by kernel_rfl) ?_⟩; cbv))
  all_goals (refine .of (congrArg boo ?_); subst hΩ; subst hr; rw [Bool.eq_iff_iff]; simp at *; try omega)
theorem c_l1Name (c : UInt8) : PCtr PP n_spec_l1Name [u8 c] (boo (nameB c)) := by
  obtain ⟨Ω, hΩ⟩ : ∃ Ω, Ω = std := ⟨_, rfl⟩
  obtain ⟨r, hr⟩ : ∃ r, r = nameB c := ⟨_, rfl⟩
  rw [← hr]
  have hc0 := c_l1Letter c
  have hc1 := c_l1Digit c
  unfold nameB at hr
  unfold u8 at *
  generalize (c.toNat : Int) = n at *
  generalize letterB c = b1 at *
  generalize digitB c = b2 at *
  have htab := tab
  have hmo := hmo
  refine PCtr.walk tab hΩ fn_spec_l1Name rfl ?_
  generalize PP = P at *
  cbv
  repeat' (first | (refine br (fun h => ?_) (fun h => ?_) <;> cbv) | (refine ⟨VC_drawn htab hΩ hmo (by kernel_rfl) ?_⟩; cbv) | (refine QCall_pure (k := 3) (hc0) rfl (fits _) rfl ?_; cbv) | (refine QCall_pure (k := 3) (hc1) rfl (fits _) rfl ?_; cbv) | (refine call_pure hΩ 3 (hc0) rfl (fits _) rfl rfl ?_; cbv) | (refine call_pure hΩ 3 (hc1) rfl (fits _) rfl rfl ?_; cbv))
  all_goals (refine .of (congrArg boo ?_); subst hΩ; subst hr; clear hc0 hc1 htab hmo; first | (rw [show b1 = true by assumption]; rfl) | (rw [show b1 = false by assumption, show b2 = true by assumption]; rfl) | (rw [show b1 = false by assumption, show b2 = false by assumption]; rfl))
theorem c_implVersionFault (v : Ver) : PCtr PP n_impl_VersionFault [v.enc] (i64 (verF v)) := by
  obtain ⟨Ω, hΩ⟩ : ∃ Ω, Ω = std := ⟨_, rfl⟩
  obtain ⟨r, hr⟩ : ∃ r, r = verF v := ⟨_, rfl⟩
  rw [← hr]
  have hc0 := c_within
  unfold verF at hr
  generalize inB = F at *
  have htab := tab
  have hmo := hmo
  refine PCtr.walk tab hΩ fn_impl_VersionFault rfl ?_
  generalize PP = P at *
  cbv
  repeat' (first | (refine br (fun h => ?_) (fun h => ?_) <;> cbv) | (refine ⟨VC_drawn htab hΩ hmo (by kernel_rfl) ?_⟩; cbv) | (refine QCall_pure (k := 3) (hc0 _ _ _) rfl (fits _) rfl ?_; cbv) | (refine call_pure hΩ 3 (hc0 _ _ _) rfl (fits _) rfl rfl ?_; cbv))
  all_goals (refine .of (congrArg i64 ?_); subst hΩ; subst hr; clear hc0 htab hmo; simp_all)
theorem c_specVersionFault (v : Ver) : PCtr PP n_spec_VersionFault [v.enc] (i64 (verF v)) := by
  obtain ⟨Ω, hΩ⟩ : ∃ Ω, Ω = std := ⟨_, rfl⟩
  obtain ⟨r, hr⟩ : ∃ r, r = verF v := ⟨_, rfl⟩
  rw [← hr]
  have hc0 := c_l1In
  unfold verF at hr
  generalize inB = F at *
  have htab := tab
  have hmo := hmo
  refine PCtr.walk tab hΩ fn_spec_VersionFault rfl ?_
  generalize PP = P at *
  cbv
  repeat' (first | (refine br (fun h => ?_) (fun h => ?_) <;> cbv) | (refine ⟨VC_drawn htab hΩ hmo (by kernel_rfl) ?_⟩; cbv) | (refine QCall_pure (k := 3) (hc0 _ _ _) rfl (fits _) rfl ?_; cbv) | (refine call_pure hΩ 3 (hc0 _ _ _) rfl (fits _) rfl rfl ?_; cbv))
  all_goals (refine .of (congrArg i64 ?_); subst hΩ; subst hr; clear hc0 htab hmo; simp_all)
theorem c_isNaN (x : Int) : PCtr PP n_cmp_isNaN_int64 [i64 x] (boo (false)) := by
  obtain ⟨Ω, hΩ⟩ : ∃ Ω, Ω = std := ⟨_, rfl⟩
  obtain ⟨r, hr⟩ : ∃ r, r = false := ⟨_, rfl⟩
  rw [← hr]
  have htab := tab
  have hmo := hmo
  refine PCtr.walk tab hΩ fn_cmp_isNaN_int64 rfl ?_
  generalize PP = P at *
  cbv
  repeat' (first | (refine br (fun h => ?_) (fun h => ?_) <;> cbv) | (refine ⟨VC_drawn htab hΩ hmo (by kernel_rfl) ?_⟩; cbv))
  all_goals (refine .of (congrArg boo ?_); subst hΩ; subst hr; simp_all)
theorem c_Compare (x y : Int) : PCtr PP n_cmp_Compare_int64 [i64 x, i64 y] (i64 (sgn x y)) := by
  obtain ⟨Ω, hΩ⟩ : ∃ Ω, Ω = std := ⟨_, rfl⟩
  obtain ⟨r, hr⟩ : ∃ r, r = sgn x y := ⟨_, rfl⟩
  rw [← hr]
  have hc0 := c_isNaN
  unfold sgn at hr
  have htab := tab
  have hmo := hmo
  refine PCtr.walk tab hΩ fn_cmp_Compare_int64 rfl ?_
  generalize PP = P at *
  cbv
  repeat' (first | (refine br (fun h => ?_) (fun h => ?_) <;> cbv) | (refine ⟨VC_drawn htab hΩ hmo (by kernel_rfl) ?_⟩; cbv) | (refine QCall_pure (k := 3) (hc0 _) rfl (fits _) rfl ?_; cbv) | (refine call_pure hΩ 3 (hc0 _) rfl (fits _) rfl rfl ?_; cbv))
  all_goals (refine .of (congrArg i64 ?_); subst hΩ; subst hr; simp only [std_cmp, cmpIS_lss, cmpIS_gtr, decide_eq_true_eq, decide_eq_false_iff_not] at *; (repeat' split) <;> omega)
theorem c_l1Sign (x y : Int) : PCtr PP n_spec_l1Sign [i64 x, i64 y] (i64 (sgn x y)) := by
  obtain ⟨Ω, hΩ⟩ : ∃ Ω, Ω = std := ⟨_, rfl⟩
  obtain ⟨r, hr⟩ : ∃ r, r = sgn x y := ⟨_, rfl⟩
  rw [← hr]
  unfold sgn at hr
  have htab := tab
  have hmo := hmo
  refine PCtr.walk tab hΩ fn_spec_l1Sign rfl ?_
  generalize PP = P at *
  cbv
  repeat' (first | (refine br (fun h => ?_) (fun h => ?_) <;> cbv) | (refine ⟨VC_drawn htab hΩ hmo (by kernel_rfl) ?_⟩; cbv))
  all_goals (refine .of (congrArg i64 ?_); subst hΩ; subst hr; simp only [std_cmp, cmpIS_lss, cmpIS_gtr, decide_eq_true_eq, decide_eq_false_iff_not] at *; (repeat' split) <;> omega)
theorem c_CompareVersions (x y : Ver) : PCtr PP n_spec_CompareVersions [x.enc, y.enc] (i64 (cmpV x y)) := by
  obtain ⟨Ω, hΩ⟩ : ∃ Ω, Ω = std := ⟨_, rfl⟩
  obtain ⟨r, hr⟩ : ∃ r, r = cmpV x y := ⟨_, rfl⟩
  rw [← hr]
  have hc0 := c_l1Sign
  unfold cmpV at hr
  generalize sgn = F at *
  have htab := tab
  have hmo := hmo
  refine PCtr.walk tab hΩ fn_spec_CompareVersions rfl ?_
  generalize PP = P at *
  cbv
  repeat' (first | (refine br (fun h => ?_) (fun h => ?_) <;> cbv) | (refine ⟨VC_drawn htab hΩ hmo (by kernel_rfl) ?_⟩; cbv) | (refine QCall_pure (k := 3) (hc0 _ _) rfl (fits _) rfl ?_; cbv) | (refine call_pure hΩ 3 (hc0 _ _) rfl (fits _) rfl rfl ?_; cbv))
  all_goals (refine .of (congrArg i64 ?_); subst hΩ; subst hr; simp_all)
theorem c_implTop : PCtr PP n_impl_top [] topV.enc := by
  obtain ⟨Ω, hΩ⟩ : ∃ Ω, Ω = std := ⟨_, rfl⟩
  refine PCtr.walk tab hΩ fn_impl_top rfl ?_
  generalize PP = P at *
  cbv
  exact .same
theorem c_specTop : PCtr PP n_spec_l1Top [] topV.enc := by
  obtain ⟨Ω, hΩ⟩ : ∃ Ω, Ω = std := ⟨_, rfl⟩
  refine PCtr.walk tab hΩ fn_spec_l1Top rfl ?_
  generalize PP = P at *
  cbv
  exact .same
end Go.Proofs.YtgcnggefeapalaaGreatDoor

/- Walks: names. Plain theorems. -/
set_option linter.unusedVariables false
set_option linter.unusedSimpArgs false
namespace Go.Proofs.YtgcnggefeapalaaGreatDoor
open Go Go.Fw
set_option maxRecDepth 100000
theorem ltS {Ω : Opq} (hΩ : Ω = std) {i : Nat} {xs : List UInt8} (h : Ω.cmp .lss (Ω.int i) (Ω.int (Ω.lenS xs)) = true) : i < xs.length := by
  subst hΩ
  have h : (i : Int) < xs.length := lt_t h
  omega
theorem geS {Ω : Opq} (hΩ : Ω = std) {i : Nat} {xs : List UInt8} (h : Ω.cmp .lss (Ω.int i) (Ω.int (Ω.lenS xs)) = false) : xs.length ≤ i := by
  subst hΩ
  have h : (xs.length : Int) ≤ i := lt_f h
  omega
theorem c_implNameFault (s : List UInt8) : PCtr PP n_impl_NameFault [str s] (i64 (nameF s)) := by
  obtain ⟨Ω, hΩ⟩ : ∃ Ω, Ω = std := ⟨_, rfl⟩
  obtain ⟨r, hr⟩ : ∃ r, r = nameF s := ⟨_, rfl⟩
  rw [← hr]
  have hc : ∀ c, PCtr PP n_impl_isNameByte [.sc (.int .u8 (Ω.u8 c))] (boo (nameB c)) := by subst hΩ; exact c_isNameByte
  unfold nameF at hr
  generalize nameB = F at *
  have htab := tab
  have hle : Ω.lenS s = s.length := by subst hΩ; rfl
  refine PCtr.walk tab hΩ fn_impl_NameFault rfl ?_
  generalize PP = P at *
  cbv
  refine br (fun h1 => ?_) (fun h1 => ?_) <;> cbv
  · exact .of (congrArg i64 (by rw [hr, if_pos (by subst hΩ; exact lt_t h1)]))
  rw [if_neg (by subst hΩ; exact Int.not_lt.2 (lt_f h1))] at hr
  refine br (fun h2 => ?_) (fun h2 => ?_) <;> cbv
  · exact .of (congrArg i64 (by rw [hr, if_pos (by subst hΩ; exact gt_t h2)]))
  rw [if_neg (by subst hΩ; exact Int.not_lt.2 (gt_f h2))] at hr
  have hs : s.length ≤ 12 := by subst hΩ; have h2 : (s.length : Int) ≤ 12 := gt_f h2; omega
  obtain ⟨c0, s', hs0⟩ : ∃ c s', s = c :: s' := by
    subst hΩ
    have h1 : (1 : Int) ≤ s.length := lt_f h1
    cases s with
    | nil => simp at h1
    | cons c s' => exact ⟨_, _, rfl⟩
  rw [show s.headD 0 = c0 by rw [hs0]; rfl] at hr
  refine ⟨⟨by decide⟩, c0, by rw [hs0]; rfl, ?_⟩
  cbv
  refine br (fun h3 => ?_) (fun h3 => ?_) <;> cbv
  · exact .of (congrArg i64 (by rw [hr, if_neg (by subst hΩ; have h3 : (c0.toNat : Int) < 97 := lt_t h3; unfold letterB; simp; omega)]))
  refine ⟨⟨by decide⟩, c0, by rw [hs0]; rfl, ?_⟩
  cbv
  refine br (fun h4 => ?_) (fun h4 => ?_) <;> cbv
  · exact .of (congrArg i64 (by rw [hr, if_neg (by subst hΩ; have h4 : 122 < (c0.toNat : Int) := gt_t h4; unfold letterB; simp; omega)]))
  rw [if_pos (by subst hΩ; have h3 : 97 ≤ (c0.toNat : Int) := lt_f h3; have h4 : (c0.toNat : Int) ≤ 122 := gt_f h4; unfold letterB; simp; omega)] at hr
  refine loopX htab hΩ (fun i : Nat => ⟨[(0, .sc (.string (mkS s))), (23, .sc (.int .i64 (Ω.int (Ω.lenS s)))), (24, .sc (.int .i64 (Ω.int i)))], 33, []⟩) (fun i => i ≤ s.length ∧ r = allCode F 5 (s.drop i)) (fun i => s.length - i) 0
    ⟨Nat.zero_le _, hr⟩ (Sbs.mk rfl rfl ⟨rfl, rfl, zeroI hΩ, trivial⟩) ?_
  rintro i ⟨hi, he⟩
  cbv
  refine br (fun h => ?_) (fun h => ?_) <;> cbv
  · replace h := ltS hΩ h
    obtain ⟨c, hcc⟩ := at_of (cs := s) h
    rw [allCode_at _ _ hcc] at he
    refine ⟨⟨nnI hΩ⟩, c, by subst hΩ; exact hcc, ?_⟩
    cbv
    refine call_pure hΩ 3 (hc c) rfl (fits _) rfl rfl ?_
    cbv
    refine br (fun g => ?_) (fun g => ?_) <;> cbv
    · exact .of (congrArg i64 (by rw [he, notT' hΩ g]; rfl))
    · rw [notF' hΩ g] at he
      exact ⟨i + 1, ⟨by omega, he⟩, by omega, Sbs.mk rfl rfl ⟨rfl, rfl, incI hΩ (by omega), trivial⟩⟩
  · replace h := geS hΩ h
    exact .of (congrArg i64 (by rw [he, List.drop_of_length_le h]; rfl))
theorem c_specNameFault (s : List UInt8) : PCtr PP n_spec_NameFault [str s] (i64 (nameF s)) := by
  obtain ⟨Ω, hΩ⟩ : ∃ Ω, Ω = std := ⟨_, rfl⟩
  obtain ⟨r, hr⟩ : ∃ r, r = nameF s := ⟨_, rfl⟩
  rw [← hr]
  have hc : ∀ c, PCtr PP n_spec_l1Name [.sc (.int .u8 (Ω.u8 c))] (boo (nameB c)) := by subst hΩ; exact c_l1Name
  unfold nameF at hr
  generalize nameB = F at *
  have hc2 := c_l1Letter
  have htab := tab
  have hle : Ω.lenS s = s.length := by subst hΩ; rfl
  refine PCtr.walk tab hΩ fn_spec_NameFault rfl ?_
  generalize PP = P at *
  cbv
  refine br (fun h1 => ?_) (fun h1 => ?_) <;> cbv
  · exact .of (congrArg i64 (by rw [hr, if_pos (by subst hΩ; exact lt_t h1)]))
  rw [if_neg (by subst hΩ; exact Int.not_lt.2 (lt_f h1))] at hr
  refine br (fun h2 => ?_) (fun h2 => ?_) <;> cbv
  · exact .of (congrArg i64 (by rw [hr, if_pos (by subst hΩ; exact gt_t h2)]))
  rw [if_neg (by subst hΩ; exact Int.not_lt.2 (gt_f h2))] at hr
  have hs : s.length ≤ 12 := by subst hΩ; have h2 : (s.length : Int) ≤ 12 := gt_f h2; omega
  obtain ⟨c0, s', hs0⟩ : ∃ c s', s = c :: s' := by
    subst hΩ
    have h1 : (1 : Int) ≤ s.length := lt_f h1
    cases s with
    | nil => simp at h1
    | cons c s' => exact ⟨_, _, rfl⟩
  rw [show s.headD 0 = c0 by rw [hs0]; rfl] at hr
  refine ⟨⟨by decide⟩, c0, by rw [hs0]; rfl, ?_⟩
  cbv
  have hl : PCtr P n_spec_l1Letter [.sc (.int .u8 (Ω.u8 c0))] (boo (letterB c0)) := by subst hΩ; exact hc2 c0
  generalize letterB c0 = b at *
  refine call_pure hΩ 3 hl rfl (fits _) rfl rfl ?_
  cbv
  refine br (fun h3 => ?_) (fun h3 => ?_) <;> cbv
  · exact .of (congrArg i64 (by rw [hr, notT' hΩ (b := b) (by subst hΩ; exact h3)]; rfl))
  rw [notF' hΩ (b := b) (by subst hΩ; exact h3), if_pos rfl] at hr
  refine loopX htab hΩ (fun i : Nat => ⟨[(0, .sc (.string (mkS s))), (3, .sc (.int .i64 (Ω.int i)))], 29, []⟩) (fun i => i ≤ s.length ∧ r = allCode F 5 (s.drop i)) (fun i => s.length - i) 0
    ⟨Nat.zero_le _, hr⟩ (Sbs.mk rfl rfl ⟨rfl, zeroI hΩ, trivial⟩) ?_
  rintro i ⟨hi, he⟩
  cbv
  refine br (fun h => ?_) (fun h => ?_) <;> cbv
  · replace h := ltS hΩ h
    obtain ⟨c, hcc⟩ := at_of (cs := s) h
    rw [allCode_at _ _ hcc] at he
    refine ⟨⟨nnI hΩ⟩, c, by subst hΩ; exact hcc, ?_⟩
    cbv
    refine call_pure hΩ 3 (hc c) rfl (fits _) rfl rfl ?_
    cbv
    refine br (fun g => ?_) (fun g => ?_) <;> cbv
    · exact .of (congrArg i64 (by rw [he, notT' hΩ g]; rfl))
    · rw [notF' hΩ g] at he
      exact ⟨i + 1, ⟨by omega, he⟩, by omega, Sbs.mk rfl rfl ⟨rfl, incI hΩ (by omega), trivial⟩⟩
  · replace h := geS hΩ h
    exact .of (congrArg i64 (by rw [he, List.drop_of_length_le h]; rfl))
end Go.Proofs.YtgcnggefeapalaaGreatDoor

/- Versions are compared as structs. Plain theorems. -/
set_option linter.unusedVariables false
set_option linter.unusedSimpArgs false
namespace Go.Proofs.YtgcnggefeapalaaGreatDoor
open Go Go.Fw
theorem verFields : PP.fieldsOf 69 = #[⟨"A", 2, 0, false, "", "", 0⟩, ⟨"B", 2, 1, false, "", "", 8⟩, ⟨"C", 2, 2, false, "", "", 16⟩] := by kernel_rfl
theorem verUnder : PP.underlying 69 = some (.struct (PP.fieldsOf 69)) := by kernel_rfl
theorem verIn : PP.stoodInHeld 69 = false := by kernel_rfl
theorem verG : PP.eqGuardType PP.depth 69 = false := by kernel_rfl
theorem agg2 : aggT PP 2 = some false := by kernel_rfl
theorem under2 : PP.underlying 2 = some (.int .i64) := by kernel_rfl
def Ver.vals (v : Ver) : List Value := [.int .i64 v.a, .int .i64 v.b, .int .i64 v.c]
theorem part2 {P : Program} (h : aggT P 2 = some false) {cs : Array Value} {i : Nat} {v : Value} (hv : cs[i]? = some v) (w : World) : (part 2 cs i).run P w = .ok v w := by
  simp [part, run_isAgg h, hv]
theorem ver_equal (a b : Ver) (w : World) : (Op.equal 69 (.agg a.vals.toArray) (.agg b.vals.toArray)).run PP w = .ok (decide (a = b)) w := by
  show (Op.equalIn (9999 + 1) 69 _ _).run PP w = _
  rw [run_equalIn_struct w 9999 69 _ _ verUnder verIn, verFields]
  have hu := under2
  have ha := agg2
  generalize PP = P at *
  have e : decide (a = b) = ((a.a == b.a) && ((a.b == b.b) && (a.c == b.c))) := by
    cases a; cases b
    rw [Bool.eq_iff_iff]; simp
  rw [e]
  have p0 : ∀ (v : Ver), (part 2 v.vals.toArray 0).run P w = .ok (.int .i64 v.a) w := fun v => part2 ha rfl w
  have p1 : ∀ (v : Ver), (part 2 v.vals.toArray 1).run P w = .ok (.int .i64 v.b) w := fun v => part2 ha rfl w
  have p2 : ∀ (v : Ver), (part 2 v.vals.toArray 2).run P w = .ok (.int .i64 v.c) w := fun v => part2 ha rfl w
  have q : ∀ x y : Int, (Op.equalIn 9999 2 (.int .i64 x) (.int .i64 y)).run P w = .ok (x == y) w := fun x y => run_equalIn_int w 9998 2 .i64 .i64 x y hu
  generalize hd : 9999 = d at q ⊢
  simp only [Op.eqFields, Sem.run_bind, Sem.run_ite, p0, p1, p2, q, Result.andThen_ok]
  cases h1 : (a.a == b.a) <;> cases h2 : (a.b == b.b) <;> cases h3 : (a.c == b.c) <;> simp
theorem ver_guard (op : BinOp) (x y : Operand) (a b : Ver) (w : World) : (eqGuard op 69 x y (.agg a.vals.toArray) (.agg b.vals.toArray)).run PP w = .ok () w := by
  have hg := verG
  generalize PP = P at *
  have h1 : ∀ b : Bool, P.eqGuardType P.depth 69 = true → b = false → False := fun b h => by rw [hg] at h; cases h
  unfold eqGuard
  split
  · simp
    intro h; rw [hg] at h; cases h
  · simp
    intro h; rw [hg] at h; cases h
  · simp
theorem ver_neq (a b : Ver) (x y : Operand) (w : World) : (do eqGuard .neq 69 x y (.agg a.vals.toArray) (.agg b.vals.toArray); binOp .neq 69 (.agg a.vals.toArray) (.agg b.vals.toArray) : Sem Value).run PP w = .ok (.bool (!decide (a = b))) w := by
  have h := ver_equal a b w
  have g := ver_guard .neq x y a b w
  generalize PP = P at *
  simp only [Sem.run_bind, g, Result.andThen_ok, binOp, h]
  rfl
theorem ver_eql (a b : Ver) (x y : Operand) (w : World) : (do eqGuard .eql 69 x y (.agg a.vals.toArray) (.agg b.vals.toArray); binOp .eql 69 (.agg a.vals.toArray) (.agg b.vals.toArray) : Sem Value).run PP w = .ok (.bool (decide (a = b))) w := by
  have h := ver_equal a b w
  have g := ver_guard .eql x y a b w
  generalize PP = P at *
  simp only [Sem.run_bind, g, Result.andThen_ok, binOp, h]
  rfl
structure VerEq (P : Program) : Prop where
  neq : ∀ (a b : Ver) (x y : Operand) (w : World), (do eqGuard .neq 69 x y (.agg a.vals.toArray) (.agg b.vals.toArray); binOp .neq 69 (.agg a.vals.toArray) (.agg b.vals.toArray) : Sem Value).run P w = .ok (.bool (!decide (a = b))) w
  eql : ∀ (a b : Ver) (x y : Operand) (w : World), (do eqGuard .eql 69 x y (.agg a.vals.toArray) (.agg b.vals.toArray); binOp .eql 69 (.agg a.vals.toArray) (.agg b.vals.toArray) : Sem Value).run P w = .ok (.bool (decide (a = b))) w
theorem verEq : VerEq PP := ⟨ver_neq, ver_eql⟩
theorem eqX_neq {P : Program} (hP : VerEq P) (a b : Ver) {k : A → Prop} (h : k (boo (!decide (a = b)))) : EqX P .neq 69 a.cells b.cells k := ⟨_, _, _, rfl, rfl, hP.neq a b, h⟩
theorem eqX_eql {P : Program} (hP : VerEq P) (a b : Ver) {k : A → Prop} (h : k (boo (decide (a = b)))) : EqX P .eql 69 a.cells b.cells k := ⟨_, _, _, rfl, rfl, hP.eql a b, h⟩
end Go.Proofs.YtgcnggefeapalaaGreatDoor

/- Walks: terms. Plain theorems. -/
set_option linter.unusedVariables false
set_option linter.unusedSimpArgs false
namespace Go.Proofs.YtgcnggefeapalaaGreatDoor
open Go Go.Fw
set_option maxRecDepth 100000
def idxFrom {α : Type} (p : α → Bool) : Nat → List α → Int
  | _, [] => -1
  | i, x :: xs => if p x then (i : Int) else idxFrom p (i + 1) xs
def orF : List Int → Int
  | [] => 0
  | x :: xs => if x ≠ 0 then x else orF xs
theorem orF_at {cs : List Int} {i : Nat} {c : Int} (h : cs[i]? = some c) : orF (cs.drop i) = if c ≠ 0 then c else orF (cs.drop (i + 1)) := by
  obtain ⟨h1, h2⟩ := List.getElem?_eq_some_iff.1 h
  rw [List.drop_eq_getElem_cons h1, h2, orF]
def idx {α : Type} (p : α → Bool) (l : List α) : Int := idxFrom p 0 l
theorem idxFrom_at {α : Type} (p : α → Bool) {cs : List α} {i : Nat} {c : α} (h : cs[i]? = some c) : idxFrom p i (cs.drop i) = if p c then (i : Int) else idxFrom p (i + 1) (cs.drop (i + 1)) := by
  obtain ⟨h1, h2⟩ := List.getElem?_eq_some_iff.1 h
  rw [List.drop_eq_getElem_cons h1, h2, idxFrom]
theorem idxFrom_nn {α : Type} (p : α → Bool) : ∀ (l : List α) (i : Nat), (0 ≤ idxFrom p i l) = (l.any p = true)
  | [], i => by simp [idxFrom]
  | x :: xs, i => by
    unfold idxFrom
    split
    · rename_i h; simp [h]
    · rename_i h; rw [idxFrom_nn p xs (i + 1)]; simp [h]
theorem idx_any {α : Type} (p : α → Bool) (l : List α) : decide (0 ≤ idx p l) = l.any p := by
  rw [Bool.eq_iff_iff, decide_eq_true_eq]; exact Iff.of_eq (idxFrom_nn p l 0)
theorem c_Or (x y z : Int) : PCtr PP n_cmp_Or_int [.sl false 1 [i64 x, i64 y, i64 z]] (i64 (if x ≠ 0 then x else if y ≠ 0 then y else z)) := by
  obtain ⟨Ω, hΩ⟩ : ∃ Ω, Ω = std := ⟨_, rfl⟩
  obtain ⟨r, hr⟩ : ∃ r, r = if x ≠ 0 then x else if y ≠ 0 then y else z := ⟨_, rfl⟩
  rw [← hr]
  obtain ⟨l, hl⟩ : ∃ l, l = [x, y, z] := ⟨_, rfl⟩
  obtain ⟨xs, hxs⟩ : ∃ xs, xs = l.map i64 := ⟨_, rfl⟩
  rw [show [i64 x, i64 y, i64 z] = xs by rw [hxs, hl]; rfl]
  have hlen : xs.length = l.length := by rw [hxs, List.length_map]
  have hr : r = orF l := by rw [hr, hl]; simp only [orF]; (repeat' split) <;> simp_all
  have hl3 : l.length = 3 := by rw [hl]; rfl
  have htab := tab
  have hmo := hmo
  have hve := verEq
  refine PCtr.walk tab hΩ fn_cmp_Or_int rfl ?_
  generalize PP = P at *
  cbv
  refine loopX htab hΩ (fun i : Nat => ⟨[(3, .sc (.int .i64 0)), (6, .sl false 1 xs), (7, .sc (.int .i64 (Ω.int (Ω.len xs)))), (8, .sc (.int .i64 (Ω.int i)))], 18, []⟩) (fun i => i ≤ l.length ∧ r = orF (l.drop i)) (fun i => l.length - i) 0
    ⟨Nat.zero_le _, hr⟩ (Sbs.mk rfl rfl ⟨rfl, rfl, rfl, zeroI hΩ, trivial⟩) ?_
  rintro i ⟨hi, he⟩
  cbv
  refine br (fun h => ?_) (fun h => ?_) <;> cbv
  · replace h := ltI hΩ h
    obtain ⟨c, hcc⟩ := at_of (cs := l) (by omega : i < l.length)
    rw [orF_at hcc] at he
    refine ⟨⟨nnI hΩ⟩, _, rdI hΩ hxs hcc, ?_⟩
    cbv
    refine br (fun g => ?_) (fun g => ?_) <;> cbv
    · exact .of (congrArg i64 (by rw [he, if_pos (neI_t hΩ g)]))
    · rw [if_neg (by rw [neI_f hΩ g]; simp)] at he
      exact ⟨i + 1, ⟨by omega, he⟩, by omega, Sbs.mk rfl rfl ⟨rfl, rfl, rfl, incI hΩ (by omega), trivial⟩⟩
  · replace h := geI hΩ h
    exact .of (congrArg i64 (by rw [he, List.drop_of_length_le (by omega)]; rfl))
theorem c_compare (a b : Ver) : PCtr PP n_impl_compare [a.enc, b.enc] (i64 (cmpV a b)) := by
  obtain ⟨Ω, hΩ⟩ : ∃ Ω, Ω = std := ⟨_, rfl⟩
  obtain ⟨r, hr⟩ : ∃ r, r = cmpV a b := ⟨_, rfl⟩
  rw [← hr]
  have h1 := c_Compare
  have h2 := c_Or
  unfold cmpV at hr
  generalize sgn = F at *
  have htab := tab
  have hmo := hmo
  have hve := verEq
  refine PCtr.walk tab hΩ fn_impl_compare rfl ?_
  generalize PP = P at *
  cbv
  refine ⟨VC_tail htab hΩ hmo 15 (by kernel_rfl) ?_⟩
  cbv
  refine QCall_pure (k := 3) (h1 a.a b.a) rfl (fits _) rfl ?_
  cbv
  refine QCall_pure (k := 3) (h1 a.b b.b) rfl (fits _) rfl ?_
  cbv
  refine QCall_pure (k := 3) (h1 a.c b.c) rfl (fits _) rfl ?_
  cbv
  have h2 := h2 (F a.a b.a) (F a.b b.b) (F a.c b.c)
  rw [← hr] at h2
  refine call_pure hΩ 3 h2 rfl (fits _) rfl rfl ?_
  cbv
  exact .same
theorem c_implTermFault (t : Trm) : PCtr PP n_impl_TermFault [t.enc] (i64 (trmF t)) := by
  obtain ⟨Ω, hΩ⟩ : ∃ Ω, Ω = std := ⟨_, rfl⟩
  obtain ⟨r, hr⟩ : ∃ r, r = trmF t := ⟨_, rfl⟩
  rw [← hr]
  have h1 := c_implNameFault t.n
  have h2 := c_implVersionFault
  have h3 := c_implTop
  have h4 := c_compare
  unfold trmF at hr
  generalize nameF t.n = c1 at *
  generalize verF = F at *
  generalize cmpV = C at *
  generalize topV = tv at *
  have htab := tab
  have hmo := hmo
  have hve := verEq
  refine PCtr.walk tab hΩ fn_impl_TermFault rfl ?_
  generalize PP = P at *
  cbv
  refine call_pure hΩ 3 h1 rfl (fits _) rfl rfl ?_
  cbv
  refine br (fun g1 => ?_) (fun g1 => ?_) <;> cbv
  · exact .of (congrArg i64 (by rw [hr, if_pos (neI_t hΩ g1)]))
  rw [if_neg (by rw [neI_f hΩ g1]; simp)] at hr
  refine call_pure hΩ 3 (h2 t.l) rfl (fits _) rfl rfl ?_
  cbv
  refine br (fun g2 => ?_) (fun g2 => ?_) <;> cbv
  · exact .of (congrArg i64 (by rw [hr, if_pos (neI_t hΩ g2)]))
  rw [if_neg (by rw [neI_f hΩ g2]; simp)] at hr
  refine ⟨VC_drawn htab hΩ hmo (by kernel_rfl) ?_⟩
  cbv
  refine QCall_pure (k := 3) h3 rfl (fits _) rfl ?_
  cbv
  refine eqX_neq hve t.h tv ?_
  generalize hD : decide (t.h = tv) = D
  have hr : r = if D = false ∧ ¬F t.h = 0 then 3 else if 0 ≤ C t.l t.h then 1 else 0 := by rw [hr, ← hD]; simp
  cbv
  refine br (fun g3 => ?_) (fun g3 => ?_) <;> cbv
  · have g3 : (!D) = true := g3
    refine QCall_pure (k := 3) (h2 t.h) rfl (fits _) rfl ?_
    cbv
    refine br (fun g4 => ?_) (fun g4 => ?_) <;> cbv
    · refine .of (congrArg i64 ?_)
      subst hΩ
      rw [hr, if_pos]
      exact ⟨by simpa using g3, by simpa using g4⟩
    refine call_pure hΩ 3 (h4 t.l t.h) rfl (fits _) rfl rfl ?_
    cbv
    rw [if_neg (by subst hΩ; simp at g4; simp [g4])] at hr
    refine br (fun g5 => ?_) (fun g5 => ?_) <;> cbv
    · exact .of (congrArg i64 (by rw [hr, if_pos (by subst hΩ; exact ge_t g5)]))
    · exact .of (congrArg i64 (by rw [hr, if_neg (by subst hΩ; exact Int.not_le.2 (ge_f g5))]))
  · have g3 : (!D) = false := g3
    rw [if_neg (by simp at g3; simp [g3])] at hr
    refine call_pure hΩ 3 (h4 t.l t.h) rfl (fits _) rfl rfl ?_
    cbv
    refine br (fun g5 => ?_) (fun g5 => ?_) <;> cbv
    · exact .of (congrArg i64 (by rw [hr, if_pos (by subst hΩ; exact ge_t g5)]))
    · exact .of (congrArg i64 (by rw [hr, if_neg (by subst hΩ; exact Int.not_le.2 (ge_f g5))]))
theorem c_specTermFault (t : Trm) : PCtr PP n_spec_TermFault [t.enc] (i64 (trmF t)) := by
  obtain ⟨Ω, hΩ⟩ : ∃ Ω, Ω = std := ⟨_, rfl⟩
  obtain ⟨r, hr⟩ : ∃ r, r = trmF t := ⟨_, rfl⟩
  rw [← hr]
  have h1 := c_specNameFault t.n
  have h2 := c_specVersionFault
  have h3 := c_specTop
  have h4 := c_CompareVersions
  unfold trmF at hr
  generalize nameF t.n = c1 at *
  generalize verF = F at *
  generalize cmpV = C at *
  generalize topV = tv at *
  have htab := tab
  have hmo := hmo
  have hve := verEq
  refine PCtr.walk tab hΩ fn_spec_TermFault rfl ?_
  generalize PP = P at *
  cbv
  refine call_pure hΩ 3 h1 rfl (fits _) rfl rfl ?_
  cbv
  refine br (fun g1 => ?_) (fun g1 => ?_) <;> cbv
  · exact .of (congrArg i64 (by rw [hr, if_pos (neI_t hΩ g1)]))
  rw [if_neg (by rw [neI_f hΩ g1]; simp)] at hr
  refine call_pure hΩ 3 (h2 t.l) rfl (fits _) rfl rfl ?_
  cbv
  refine br (fun g2 => ?_) (fun g2 => ?_) <;> cbv
  · exact .of (congrArg i64 (by rw [hr, if_pos (neI_t hΩ g2)]))
  rw [if_neg (by rw [neI_f hΩ g2]; simp)] at hr
  refine ⟨VC_drawn htab hΩ hmo (by kernel_rfl) ?_⟩
  cbv
  refine QCall_pure (k := 3) h3 rfl (fits _) rfl ?_
  cbv
  refine eqX_neq hve t.h tv ?_
  generalize hD : decide (t.h = tv) = D
  have hr : r = if D = false ∧ ¬F t.h = 0 then 3 else if 0 ≤ C t.l t.h then 1 else 0 := by rw [hr, ← hD]; simp
  cbv
  refine br (fun g3 => ?_) (fun g3 => ?_) <;> cbv
  · have g3 : (!D) = true := g3
    refine QCall_pure (k := 3) (h2 t.h) rfl (fits _) rfl ?_
    cbv
    refine br (fun g4 => ?_) (fun g4 => ?_) <;> cbv
    · refine .of (congrArg i64 ?_)
      subst hΩ
      rw [hr, if_pos]
      exact ⟨by simpa using g3, by simpa using g4⟩
    refine call_pure hΩ 3 (h4 t.l t.h) rfl (fits _) rfl rfl ?_
    cbv
    rw [if_neg (by subst hΩ; simp at g4; simp [g4])] at hr
    refine br (fun g5 => ?_) (fun g5 => ?_) <;> cbv
    · exact .of (congrArg i64 (by rw [hr, if_pos (by subst hΩ; exact ge_t g5)]))
    · exact .of (congrArg i64 (by rw [hr, if_neg (by subst hΩ; exact Int.not_le.2 (ge_f g5))]))
  · have g3 : (!D) = false := g3
    rw [if_neg (by simp at g3; simp [g3])] at hr
    refine call_pure hΩ 3 (h4 t.l t.h) rfl (fits _) rfl rfl ?_
    cbv
    refine br (fun g5 => ?_) (fun g5 => ?_) <;> cbv
    · exact .of (congrArg i64 (by rw [hr, if_pos (by subst hΩ; exact ge_t g5)]))
    · exact .of (congrArg i64 (by rw [hr, if_neg (by subst hΩ; exact Int.not_le.2 (ge_f g5))]))
theorem c_l2Holds (l : List (List UInt8)) (s : List UInt8) (hl : l.length ≤ 4611686018427387904) : PCtr PP n_spec_l2Holds [.sl false 1 (l.map str), str s] (boo (l.any (· == s))) := by
  obtain ⟨Ω, hΩ⟩ : ∃ Ω, Ω = std := ⟨_, rfl⟩
  obtain ⟨r, hr⟩ : ∃ r, r = l.any (· == s) := ⟨_, rfl⟩
  rw [← hr]
  obtain ⟨xs, hxs⟩ : ∃ xs, xs = l.map str := ⟨_, rfl⟩
  have hlen : xs.length = l.length := by rw [hxs, List.length_map]
  rw [← hxs]
  have htab := tab
  have hmo := hmo
  have hve := verEq
  refine PCtr.walk tab hΩ fn_spec_l2Holds rfl ?_
  generalize PP = P at *
  cbv
  refine loopX htab hΩ (fun i : Nat => ⟨[(0, .sl false 1 xs), (1, .sc (.string (mkS s))), (5, .sc (.int .i64 (Ω.int i)))], 18, []⟩) (fun i => i ≤ l.length ∧ r = (l.drop i).any (· == s)) (fun i => l.length - i) 0
    ⟨Nat.zero_le _, hr⟩ (Sbs.mk rfl rfl ⟨rfl, rfl, zeroI hΩ, trivial⟩) ?_
  rintro i ⟨hi, he⟩
  cbv
  refine br (fun h => ?_) (fun h => ?_) <;> cbv
  · replace h := ltI hΩ h
    obtain ⟨c, hcc⟩ := at_of (cs := l) (by omega : i < l.length)
    rw [any_at _ hcc] at he
    refine ⟨⟨nnI hΩ⟩, _, rdI hΩ hxs hcc, ?_⟩
    cbv
    refine br (fun g => ?_) (fun g => ?_) <;> cbv
    · exact .of (congrArg boo (by rw [he]; subst hΩ; rw [show (c == s) = true from g]; rfl))
    · rw [show (c == s) = false by subst hΩ; exact g, Bool.false_or] at he
      exact ⟨i + 1, ⟨by omega, he⟩, by omega, Sbs.mk rfl rfl ⟨rfl, rfl, incI hΩ (by omega), trivial⟩⟩
  · replace h := geI hΩ h
    exact .of (congrArg boo (by rw [he, List.drop_of_length_le (by omega)]; rfl))
theorem c_IndexS (l : List (List UInt8)) (s : List UInt8) (hl : l.length ≤ 4611686018427387904) : PCtr PP n_slices_Index_L_string_string [.sl false 1 (l.map str), str s] (i64 (idx (fun c => s == c) l)) := by
  obtain ⟨Ω, hΩ⟩ : ∃ Ω, Ω = std := ⟨_, rfl⟩
  obtain ⟨r, hr⟩ : ∃ r, r = idx (fun c => s == c) l := ⟨_, rfl⟩
  rw [← hr]
  obtain ⟨xs, hxs⟩ : ∃ xs, xs = l.map str := ⟨_, rfl⟩
  have hlen : xs.length = l.length := by rw [hxs, List.length_map]
  rw [← hxs]
  have htab := tab
  have hmo := hmo
  have hve := verEq
  refine PCtr.walk tab hΩ fn_slices_Index_L_string_string rfl ?_
  generalize PP = P at *
  cbv
  refine loopX htab hΩ (fun i : Nat => ⟨[(0, .sl false 1 xs), (1, .sc (.string (mkS s))), (7, .sc (.int .i64 (Ω.int (Ω.len xs)))), (8, .sc (.int .i64 (Ω.int i)))], 19, []⟩) (fun i => i ≤ l.length ∧ r = idxFrom (fun c => s == c) i (l.drop i)) (fun i => l.length - i) 0
    ⟨Nat.zero_le _, hr⟩ (Sbs.mk rfl rfl ⟨rfl, rfl, rfl, zeroI hΩ, trivial⟩) ?_
  rintro i ⟨hi, he⟩
  cbv
  refine br (fun h => ?_) (fun h => ?_) <;> cbv
  · replace h := ltI hΩ h
    obtain ⟨c, hcc⟩ := at_of (cs := l) (by omega : i < l.length)
    rw [idxFrom_at _ hcc] at he
    refine ⟨⟨nnI hΩ⟩, _, rdI hΩ hxs hcc, ?_⟩
    cbv
    refine br (fun g => ?_) (fun g => ?_) <;> cbv
    · exact .of (congrArg i64 (by rw [he]; subst hΩ; rw [if_pos (show (s == c) = true from g)]; rfl))
    · rw [if_neg (by subst hΩ; rw [show (s == c) = false from g]; simp)] at he
      exact ⟨i + 1, ⟨by omega, he⟩, by omega, Sbs.mk rfl rfl ⟨rfl, rfl, rfl, incI hΩ (by omega), trivial⟩⟩
  · replace h := geI hΩ h
    exact .of (congrArg i64 (by rw [he, List.drop_of_length_le (by omega)]; rfl))
theorem c_ContainsS (l : List (List UInt8)) (s : List UInt8) (hl : l.length ≤ 4611686018427387904) : PCtr PP n_slices_Contains_L_string_string [.sl false 1 (l.map str), str s] (boo (l.any (· == s))) := by
  obtain ⟨Ω, hΩ⟩ : ∃ Ω, Ω = std := ⟨_, rfl⟩
  obtain ⟨r, hr⟩ : ∃ r, r = l.any (· == s) := ⟨_, rfl⟩
  rw [← hr]
  have hc0 := c_IndexS l s hl
  rw [show (l.any (· == s)) = l.any (fun c => s == c) by congr 1; funext c; rw [Bool.eq_iff_iff, beq_iff_eq, beq_iff_eq]; exact eq_comm, ← idx_any] at hr
  generalize idx (fun c => s == c) l = k at *
  generalize l.map str = xs at *
  have htab := tab
  have hmo := hmo
  refine PCtr.walk tab hΩ fn_slices_Contains_L_string_string rfl ?_
  generalize PP = P at *
  cbv
  repeat' (first | (refine br (fun h => ?_) (fun h => ?_) <;> cbv) | (refine ⟨VC_drawn htab hΩ hmo (by kernel_rfl) ?_⟩; cbv) | (refine QCall_pure (k := 3) (hc0) rfl (fits _) rfl ?_; cbv) | (refine call_pure hΩ 3 (hc0) rfl (fits _) rfl rfl ?_; cbv))
  all_goals (refine .of (congrArg boo ?_); subst hΩ; subst hr; rfl)
end Go.Proofs.YtgcnggefeapalaaGreatDoor

/- Walks: terms of packages. Plain theorems. -/
set_option linter.unusedVariables false
set_option linter.unusedSimpArgs false
namespace Go.Proofs.YtgcnggefeapalaaGreatDoor
open Go Go.Fw
set_option maxRecDepth 100000
def givesB (o : Pck) (t : Trm) : Bool := (t.n == o.n || o.p.any (· == t.n)) && hasB t t.n o.v
def strs (l : List (List UInt8)) : A := .sl true 1 (l.map str)
theorem beqSymm (a b : List UInt8) : (a == b) = (b == a) := by rw [Bool.eq_iff_iff, beq_iff_eq, beq_iff_eq]; exact eq_comm
theorem enc_raw (o : Pck) : ∃ ps ds bs, o.enc false = .agg [str o.n, i64 o.v.a, i64 o.v.b, i64 o.v.c, i64 o.s, .sl false 1 ps, .sl false 1 ds, .sl false 7 bs] ∧ ps = o.p.map str ∧ ds = o.d.map (encTs false) ∧ bs = o.b.map Trm.enc := ⟨_, _, _, rfl, rfl, rfl, rfl⟩
theorem c_has (t : Trm) (n : List UInt8) (v : Ver) : PCtr PP n_impl_Term_has [t.enc, str n, v.enc] (boo (hasB t n v)) := by
  obtain ⟨Ω, hΩ⟩ : ∃ Ω, Ω = std := ⟨_, rfl⟩
  obtain ⟨r, hr⟩ : ∃ r, r = hasB t n v := ⟨_, rfl⟩
  rw [← hr]
  have hc0 := c_compare
  unfold hasB at hr
  generalize cmpV = C at *
  have htab := tab
  have hmo := hmo
  refine PCtr.walk tab hΩ fn_impl_Term_has rfl ?_
  generalize PP = P at *
  cbv
  repeat' (first | (refine br (fun h => ?_) (fun h => ?_) <;> cbv) | (refine ⟨VC_drawn htab hΩ hmo (by kernel_rfl) ?_⟩; cbv) | (refine QCall_pure (k := 3) (hc0 _ _) rfl (fits _) rfl ?_; cbv) | (refine call_pure hΩ 3 (hc0 _ _) rfl (fits _) rfl rfl ?_; cbv))
  all_goals (refine .of (congrArg boo ?_); subst hΩ; subst hr; simp_all <;> (intros; omega))
theorem c_l1InTerm (t : Trm) (n : List UInt8) (v : Ver) : PCtr PP n_spec_l1InTerm [t.enc, str n, v.enc] (boo (hasB t n v)) := by
  obtain ⟨Ω, hΩ⟩ : ∃ Ω, Ω = std := ⟨_, rfl⟩
  obtain ⟨r, hr⟩ : ∃ r, r = hasB t n v := ⟨_, rfl⟩
  rw [← hr]
  have hc0 := c_CompareVersions
  unfold hasB at hr
  rw [show decide (cmpV t.l v ≤ 0) = decide (0 ≤ cmpV v t.l) by rw [cmpV_swap t.l v]; rw [Bool.eq_iff_iff]; simp] at hr
  generalize cmpV = C at *
  have htab := tab
  have hmo := hmo
  refine PCtr.walk tab hΩ fn_spec_l1InTerm rfl ?_
  generalize PP = P at *
  cbv
  repeat' (first | (refine br (fun h => ?_) (fun h => ?_) <;> cbv) | (refine ⟨VC_drawn htab hΩ hmo (by kernel_rfl) ?_⟩; cbv) | (refine QCall_pure (k := 3) (hc0 _ _) rfl (fits _) rfl ?_; cbv) | (refine call_pure hΩ 3 (hc0 _ _) rfl (fits _) rfl rfl ?_; cbv))
  all_goals (refine .of (congrArg boo ?_); subst hΩ; subst hr; simp_all <;> (intros; omega))
theorem c_termsFault (l : List Trm) (hl : l.length ≤ 4611686018427387904) : PCtr PP n_impl_termsFault [.sl false 7 (l.map Trm.enc)] (i64 (firstF trmF l)) := by
  obtain ⟨Ω, hΩ⟩ : ∃ Ω, Ω = std := ⟨_, rfl⟩
  obtain ⟨r, hr⟩ : ∃ r, r = firstF trmF l := ⟨_, rfl⟩
  rw [← hr]
  have hc := c_implTermFault
  obtain ⟨xs, hxs⟩ : ∃ xs, xs = l.map Trm.enc := ⟨_, rfl⟩
  have hlen : xs.length = l.length := by rw [hxs, List.length_map]
  rw [← hxs]
  generalize trmF = F at *
  have htab := tab
  have hmo := hmo
  have hve := verEq
  refine PCtr.walk tab hΩ fn_impl_termsFault rfl ?_
  generalize PP = P at *
  cbv
  refine loopX htab hΩ (fun i : Nat => ⟨[(6, .sl false 7 xs), (7, .sc (.int .i64 (Ω.int (Ω.len xs)))), (8, .sc (.int .i64 (Ω.int i)))], 18, []⟩) (fun i => i ≤ l.length ∧ r = firstF F (l.drop i)) (fun i => l.length - i) 0
    ⟨Nat.zero_le _, hr⟩ (Sbs.mk rfl rfl ⟨rfl, rfl, zeroI hΩ, trivial⟩) ?_
  rintro i ⟨hi, he⟩
  cbv
  refine br (fun h => ?_) (fun h => ?_) <;> cbv
  · replace h := ltI hΩ h
    obtain ⟨c, hcc⟩ := at_of (cs := l) (by omega : i < l.length)
    rw [firstF_at _ hcc] at he
    refine ⟨⟨nnI hΩ⟩, _, rdI hΩ hxs hcc, ?_⟩
    cbv
    refine call_pure hΩ 3 (hc c) rfl (fits _) rfl rfl ?_
    cbv
    refine br (fun g => ?_) (fun g => ?_) <;> cbv
    · exact .of (congrArg i64 (by rw [he, if_pos (neI_t hΩ g)]))
    · rw [if_neg (by rw [neI_f hΩ g]; simp)] at he
      exact ⟨i + 1, ⟨by omega, he⟩, by omega, Sbs.mkL (rows := []) rfl rfl rfl ⟨rfl, rfl, incI hΩ (by omega), trivial⟩⟩
  · replace h := geI hΩ h
    exact .of (congrArg i64 (by rw [he, List.drop_of_length_le (by omega)]; rfl))
theorem c_l2Terms (l : List Trm) (hl : l.length ≤ 4611686018427387904) : PCtr PP n_spec_l2Terms [.sl false 7 (l.map Trm.enc)] (i64 (firstF trmF l)) := by
  obtain ⟨Ω, hΩ⟩ : ∃ Ω, Ω = std := ⟨_, rfl⟩
  obtain ⟨r, hr⟩ : ∃ r, r = firstF trmF l := ⟨_, rfl⟩
  rw [← hr]
  have hc := c_specTermFault
  obtain ⟨xs, hxs⟩ : ∃ xs, xs = l.map Trm.enc := ⟨_, rfl⟩
  have hlen : xs.length = l.length := by rw [hxs, List.length_map]
  rw [← hxs]
  generalize trmF = F at *
  have htab := tab
  have hmo := hmo
  have hve := verEq
  refine PCtr.walk tab hΩ fn_spec_l2Terms rfl ?_
  generalize PP = P at *
  cbv
  refine loopX htab hΩ (fun i : Nat => ⟨[(0, .sl false 7 xs), (3, .sc (.int .i64 (Ω.int i)))], 19, []⟩) (fun i => i ≤ l.length ∧ r = firstF F (l.drop i)) (fun i => l.length - i) 0
    ⟨Nat.zero_le _, hr⟩ (Sbs.mk rfl rfl ⟨rfl, zeroI hΩ, trivial⟩) ?_
  rintro i ⟨hi, he⟩
  cbv
  refine br (fun h => ?_) (fun h => ?_) <;> cbv
  · replace h := ltI hΩ h
    obtain ⟨c, hcc⟩ := at_of (cs := l) (by omega : i < l.length)
    rw [firstF_at _ hcc] at he
    refine ⟨⟨nnI hΩ⟩, _, rdI hΩ hxs hcc, ?_⟩
    cbv
    refine call_pure hΩ 3 (hc c) rfl (fits _) rfl rfl ?_
    cbv
    refine br (fun g => ?_) (fun g => ?_) <;> cbv
    · exact .of (congrArg i64 (by rw [he, if_pos (neI_t hΩ g)]))
    · rw [if_neg (by rw [neI_f hΩ g]; simp)] at he
      exact ⟨i + 1, ⟨by omega, he⟩, by omega, Sbs.mk rfl rfl ⟨rfl, incI hΩ (by omega), trivial⟩⟩
  · replace h := geI hΩ h
    exact .of (congrArg i64 (by rw [he, List.drop_of_length_le (by omega)]; rfl))
theorem c_l2Gives (o : Pck) (t : Trm) (hl : o.p.length ≤ 4611686018427387904) : PCtr PP n_spec_l2Gives [o.enc false, t.enc] (boo (givesB o t)) := by
  obtain ⟨Ω, hΩ⟩ : ∃ Ω, Ω = std := ⟨_, rfl⟩
  obtain ⟨r, hr⟩ : ∃ r, r = givesB o t := ⟨_, rfl⟩
  rw [← hr]
  obtain ⟨ps, ds, bs, hen, hps, hds, hbs⟩ := enc_raw o
  rw [hen]
  have hc := c_l2Holds o.p t.n hl
  have hc2 := c_l1InTerm t t.n o.v
  rw [← hps] at hc
  unfold givesB at hr
  generalize (o.p.any fun x => x == t.n) = b at *
  generalize hasB t t.n o.v = b2 at *
  have htab := tab
  have hmo := hmo
  have hve := verEq
  refine PCtr.walk tab hΩ fn_spec_l2Gives rfl ?_
  generalize PP = P at *
  cbv
  repeat' (first | (refine br (fun h => ?_) (fun h => ?_) <;> cbv) | (refine call_pure hΩ 3 hc rfl (fits _) rfl rfl ?_; cbv) | (refine call_pure hΩ 3 hc2 rfl (fits _) rfl rfl ?_; cbv) | (refine QCall_pure (k := 3) hc rfl (fits _) rfl ?_; cbv) | (refine QCall_pure (k := 3) hc2 rfl (fits _) rfl ?_; cbv) | (refine ⟨VC_drawn htab hΩ hmo (by kernel_rfl) ?_⟩; cbv))
  all_goals (refine .of (congrArg boo ?_); subst hΩ; subst hr; simp_all)
theorem c_names (o : Pck) (hl : o.p.length ≤ 1048576) : PCtr PP n_impl_Pack_names [o.enc false] (strs (o.n :: o.p)) := by
  obtain ⟨Ω, hΩ⟩ : ∃ Ω, Ω = std := ⟨_, rfl⟩
  obtain ⟨r, hr⟩ : ∃ r, r = o.n :: o.p := ⟨_, rfl⟩
  rw [← hr]
  obtain ⟨ps, ds, bs, hen, hps, hds, hbs⟩ := enc_raw o
  rw [hen]
  obtain ⟨zs, hzs⟩ : ∃ zs, zs = r.map str := ⟨_, rfl⟩
  rw [show strs r = .sl true 1 zs by rw [hzs]; rfl]
  have hzs : zs = str o.n :: ps := by rw [hzs, hr, hps]; rfl
  have hpl : ps.length = o.p.length := by rw [hps, List.length_map]
  have hno : (∀ y ∈ ps, noOwn y = true) ∧ (∀ c ∈ flat ps, okCell c = true) := by
    rw [hps]
    refine ⟨fun y hy => ?_, fun y hy => ?_⟩
    · obtain ⟨c, _, rfl⟩ := List.mem_map.1 hy; rfl
    · obtain ⟨x, hx, hy⟩ := List.mem_flatMap.1 hy
      obtain ⟨c, _, rfl⟩ := List.mem_map.1 hx
      have : y = str c := by simpa [str, A.cells] using hy
      rw [this]; rfl
  have htab := tab
  have hmo := hmo
  have hve := verEq
  refine PCtr.walk tab hΩ fn_impl_Pack_names rfl ?_
  generalize PP = P at *
  cbv
  refine ⟨⟨hno.1, hno.2, ?_, ?_⟩, ⟨rfl, ?_⟩, .of ?_⟩
  · show (1 + ps.length) * 16 ≤ 140737488355328
    omega
  · show 1 + ps.length ≤ 9223372036854775807
    omega
  · subst hΩ; show 1 + ps.length ≤ (([str o.n]).take 1 ++ ps).length; simp; omega
  · rw [hzs]; subst hΩ; show A.sl true 1 ((([str o.n]).take 1 ++ ps).take (1 + ps.length)) = _; rw [List.take_of_length_le (by simp; omega)]; rfl
end Go.Proofs.YtgcnggefeapalaaGreatDoor

/- Walks: function values over slices. Plain theorems. -/
set_option linter.unusedVariables false
set_option linter.unusedSimpArgs false
namespace Go.Proofs.YtgcnggefeapalaaGreatDoor
open Go Go.Fw
set_option maxRecDepth 100000
theorem mapO_append (f : A → Option A) {xs ys xs' ys' : List A} (h1 : mapO f xs = some xs') (h2 : mapO f ys = some ys') : mapO f (xs ++ ys) = some (xs' ++ ys') := by
  induction xs generalizing xs' with
  | nil => simp only [mapO, Option.some.injEq] at h1; subst h1; exact h2
  | cons x xs ih =>
    simp only [mapO, List.cons_append] at h1 ⊢
    cases hx : f x with
    | none => rw [hx] at h1; simp at h1
    | some y =>
      rw [hx] at h1
      cases hxs : mapO f xs with
      | none => rw [hxs] at h1; simp at h1
      | some us =>
        rw [hxs] at h1
        simp only [Option.some.injEq] at h1
        subst h1
        rw [ih hxs]; rfl
theorem ro_cloA {Ω : Opq} (hΩ : Ω = std) {S : State} {k g : Nat} {xs caps xs' caps' : List A} (h1 : mapO (roO S k) xs = some xs') (h2 : mapO (roO S k) caps = some caps') : mapO (roO S k) (Ω.cloA g xs caps) = some (Ω.cloA g xs' caps') := by
  subst hΩ
  show mapO _ (Fw.cloA g xs caps) = some (Fw.cloA g xs' caps')
  unfold Fw.cloA
  split
  · exact mapO_append _ h1 h2
  · exact mapO_append _ h2 h1
theorem roO_clo (S : State) (k g : Nat) (xs : List A) : roO S (k + 1) (.clo g xs) = (mapO (roO S k) xs).map (A.clo g) := rfl
theorem ro_clo2 {S : State} {k g : Nat} {x x' : A} {caps caps' : List A} (h1 : roO S (k + 1) x = some x') (h2 : mapO (roO S k) caps = some caps') : mapO (roO S (k + 1)) [x, .clo g caps] = some [x', .clo g caps'] := by
  simp [mapO, roO_clo, h1, h2]
theorem ro_clo1 {S : State} {k g : Nat} {caps caps' : List A} (h2 : mapO (roO S k) caps = some caps') : mapO (roO S (k + 1)) [.clo g caps] = some [.clo g caps'] := by
  simp [mapO, roO_clo, h2]
theorem roPt {S : State} {k r n : Nat} {x : A} {ys : List A} (hr : Fw.rowAt S.rows r = some ⟨n, [x], true⟩) (h : mapO (roO S k) x.cells = some ys) : roO S (k + 1) (.pt r 0 0) = some (.rp ys) := by
  simp [roO, hr, h]
theorem mapOne {f : A → Option A} {x x' : A} (h : f x = some x') : mapO f [x] = some [x'] := by simp [mapO, h]
/-- What a function value with these captured values answers. -/
structure CloB (P : Program) {α : Type} (enc : α → A) (l : List α) (g : Nat) (caps : List A) (p : α → Bool) : Prop where
  ro : ∀ S k, mapO (roO S (k + 4)) caps = some caps
  no : caps.all noOwn = true
  kl : ∀ r, killL r caps = caps
  run : ∀ s ∈ l, PCtr P (Fw.cloN g) (Fw.cloA g [enc s] caps) (boo (p s))
theorem c_IndexFuncS (l : List (List UInt8)) (hl : l.length ≤ 4611686018427387904) (g : Nat) (caps : List A) (p : List UInt8 → Bool) (hf : CloB PP (str) l g caps p) : PCtr PP n_slices_IndexFunc_L_string_string [.sl false 1 (l.map (str)), .clo g caps] (i64 (idx p l)) := by
  obtain ⟨Ω, hΩ⟩ : ∃ Ω, Ω = std := ⟨_, rfl⟩
  obtain ⟨r, hr⟩ : ∃ r, r = idx p l := ⟨_, rfl⟩
  rw [← hr]
  obtain ⟨xs, hxs⟩ : ∃ xs, xs = l.map (str) := ⟨_, rfl⟩
  have hlen : xs.length = l.length := by rw [hxs, List.length_map]
  rw [← hxs]
  have hro := hf.ro
  have hrun : ∀ s ∈ l, PCtr PP (Ω.cloN g) (Ω.cloA g [str s] caps) (boo (p s)) := by subst hΩ; exact hf.run
  have htab := tab
  have hmo := hmo
  have hve := verEq
  refine PCtr.walk tab hΩ fn_slices_IndexFunc_L_string_string rfl ?_
  generalize PP = P at *
  cbv
  refine loopX htab hΩ (fun i : Nat => ⟨[(0, .sl false 1 xs), (1, .clo g caps), (7, .sc (.int .i64 (Ω.int (Ω.len xs)))), (8, .sc (.int .i64 (Ω.int i)))], 19, []⟩) (fun i => i ≤ l.length ∧ r = idxFrom p i (l.drop i)) (fun i => l.length - i) 0
    ⟨Nat.zero_le _, hr⟩ (Sbs.mk rfl rfl ⟨rfl, rfl, rfl, zeroI hΩ, trivial⟩) ?_
  rintro i ⟨hi, he⟩
  cbv
  refine br (fun h => ?_) (fun h => ?_) <;> cbv
  · replace h := ltI hΩ h
    obtain ⟨c, hcc⟩ := at_of (cs := l) (by omega : i < l.length)
    rw [idxFrom_at _ hcc] at he
    refine ⟨⟨nnI hΩ⟩, _, rdI hΩ hxs hcc, ?_⟩
    cbv
    have h1 := hrun c (List.mem_of_getElem? hcc)

    refine call_pure hΩ 4 h1 (ro_cloA hΩ rfl (hro _ 0)) (fits _) rfl rfl ?_
    cbv
    refine br (fun g => ?_) (fun g => ?_) <;> cbv
    · exact .of (congrArg i64 (by rw [he, if_pos g]; subst hΩ; rfl))
    · rw [if_neg (by rw [show p c = false from g]; simp)] at he
      exact ⟨i + 1, ⟨by omega, he⟩, by omega, Sbs.mk rfl rfl ⟨rfl, rfl, rfl, incI hΩ (by omega), trivial⟩⟩
  · replace h := geI hΩ h
    exact .of (congrArg i64 (by rw [he, List.drop_of_length_le (by omega)]; rfl))
theorem c_ContainsFuncS (l : List (List UInt8)) (hl : l.length ≤ 4611686018427387904) (g : Nat) (caps : List A) (p : List UInt8 → Bool) (hf : CloB PP (str) l g caps p) : PCtr PP n_slices_ContainsFunc_L_string_string [.sl false 1 (l.map (str)), .clo g caps] (boo (l.any p)) := by
  obtain ⟨Ω, hΩ⟩ : ∃ Ω, Ω = std := ⟨_, rfl⟩
  obtain ⟨r, hr⟩ : ∃ r, r = l.any p := ⟨_, rfl⟩
  rw [← hr]
  have hc := c_IndexFuncS l hl g caps p hf
  have hro := hf.ro
  rw [← idx_any] at hr
  generalize idx p l = k at *
  generalize l.map (str) = xs at *
  have htab := tab
  have hmo := hmo
  have hve := verEq
  refine PCtr.walk tab hΩ fn_slices_ContainsFunc_L_string_string rfl ?_
  generalize PP = P at *
  cbv
  refine call_pure hΩ 5 hc (ro_clo2 rfl (hro _ 0)) (fits _) rfl rfl ?_
  cbv
  refine .of (congrArg boo ?_)
  subst hΩ; subst hr; rfl
theorem c_IndexFuncT (l : List (Trm)) (hl : l.length ≤ 4611686018427387904) (g : Nat) (caps : List A) (p : Trm → Bool) (hf : CloB PP (Trm.enc) l g caps p) : PCtr PP n_slices_IndexFunc_L_impl_Term_impl_Term [.sl false 7 (l.map (Trm.enc)), .clo g caps] (i64 (idx p l)) := by
  obtain ⟨Ω, hΩ⟩ : ∃ Ω, Ω = std := ⟨_, rfl⟩
  obtain ⟨r, hr⟩ : ∃ r, r = idx p l := ⟨_, rfl⟩
  rw [← hr]
  obtain ⟨xs, hxs⟩ : ∃ xs, xs = l.map (Trm.enc) := ⟨_, rfl⟩
  have hlen : xs.length = l.length := by rw [hxs, List.length_map]
  rw [← hxs]
  have hro := hf.ro
  have hrun : ∀ s ∈ l, PCtr PP (Ω.cloN g) (Ω.cloA g [Trm.enc s] caps) (boo (p s)) := by subst hΩ; exact hf.run
  have htab := tab
  have hmo := hmo
  have hve := verEq
  refine PCtr.walk tab hΩ fn_slices_IndexFunc_L_impl_Term_impl_Term rfl ?_
  generalize PP = P at *
  cbv
  refine loopX htab hΩ (fun i : Nat => ⟨[(0, .sl false 7 xs), (1, .clo g caps), (7, .sc (.int .i64 (Ω.int (Ω.len xs)))), (8, .sc (.int .i64 (Ω.int i)))], 19, []⟩) (fun i => i ≤ l.length ∧ r = idxFrom p i (l.drop i)) (fun i => l.length - i) 0
    ⟨Nat.zero_le _, hr⟩ (Sbs.mk rfl rfl ⟨rfl, rfl, rfl, zeroI hΩ, trivial⟩) ?_
  rintro i ⟨hi, he⟩
  cbv
  refine br (fun h => ?_) (fun h => ?_) <;> cbv
  · replace h := ltI hΩ h
    obtain ⟨c, hcc⟩ := at_of (cs := l) (by omega : i < l.length)
    rw [idxFrom_at _ hcc] at he
    refine ⟨⟨nnI hΩ⟩, _, rdI hΩ hxs hcc, ?_⟩
    cbv
    have h1 := hrun c (List.mem_of_getElem? hcc)

    refine call_pure hΩ 4 h1 (ro_cloA hΩ rfl (hro _ 0)) (fits _) rfl rfl ?_
    cbv
    refine br (fun g => ?_) (fun g => ?_) <;> cbv
    · exact .of (congrArg i64 (by rw [he, if_pos g]; subst hΩ; rfl))
    · rw [if_neg (by rw [show p c = false from g]; simp)] at he
      exact ⟨i + 1, ⟨by omega, he⟩, by omega, Sbs.mk rfl rfl ⟨rfl, rfl, rfl, incI hΩ (by omega), trivial⟩⟩
  · replace h := geI hΩ h
    exact .of (congrArg i64 (by rw [he, List.drop_of_length_le (by omega)]; rfl))
theorem c_ContainsFuncT (l : List (Trm)) (hl : l.length ≤ 4611686018427387904) (g : Nat) (caps : List A) (p : Trm → Bool) (hf : CloB PP (Trm.enc) l g caps p) : PCtr PP n_slices_ContainsFunc_L_impl_Term_impl_Term [.sl false 7 (l.map (Trm.enc)), .clo g caps] (boo (l.any p)) := by
  obtain ⟨Ω, hΩ⟩ : ∃ Ω, Ω = std := ⟨_, rfl⟩
  obtain ⟨r, hr⟩ : ∃ r, r = l.any p := ⟨_, rfl⟩
  rw [← hr]
  have hc := c_IndexFuncT l hl g caps p hf
  have hro := hf.ro
  rw [← idx_any] at hr
  generalize idx p l = k at *
  generalize l.map (Trm.enc) = xs at *
  have htab := tab
  have hmo := hmo
  have hve := verEq
  refine PCtr.walk tab hΩ fn_slices_ContainsFunc_L_impl_Term_impl_Term rfl ?_
  generalize PP = P at *
  cbv
  refine call_pure hΩ 5 hc (ro_clo2 rfl (hro _ 0)) (fits _) rfl rfl ?_
  cbv
  refine .of (congrArg boo ?_)
  subst hΩ; subst hr; rfl
theorem c_IndexFuncI (l : List (Int)) (hl : l.length ≤ 4611686018427387904) (g : Nat) (caps : List A) (p : Int → Bool) (hf : CloB PP (i64) l g caps p) : PCtr PP n_slices_IndexFunc_L_int64_int64 [.sl false 1 (l.map (i64)), .clo g caps] (i64 (idx p l)) := by
  obtain ⟨Ω, hΩ⟩ : ∃ Ω, Ω = std := ⟨_, rfl⟩
  obtain ⟨r, hr⟩ : ∃ r, r = idx p l := ⟨_, rfl⟩
  rw [← hr]
  obtain ⟨xs, hxs⟩ : ∃ xs, xs = l.map (i64) := ⟨_, rfl⟩
  have hlen : xs.length = l.length := by rw [hxs, List.length_map]
  rw [← hxs]
  have hro := hf.ro
  have hrun : ∀ s ∈ l, PCtr PP (Ω.cloN g) (Ω.cloA g [i64 s] caps) (boo (p s)) := by subst hΩ; exact hf.run
  have htab := tab
  have hmo := hmo
  have hve := verEq
  refine PCtr.walk tab hΩ fn_slices_IndexFunc_L_int64_int64 rfl ?_
  generalize PP = P at *
  cbv
  refine loopX htab hΩ (fun i : Nat => ⟨[(0, .sl false 1 xs), (1, .clo g caps), (7, .sc (.int .i64 (Ω.int (Ω.len xs)))), (8, .sc (.int .i64 (Ω.int i)))], 19, []⟩) (fun i => i ≤ l.length ∧ r = idxFrom p i (l.drop i)) (fun i => l.length - i) 0
    ⟨Nat.zero_le _, hr⟩ (Sbs.mk rfl rfl ⟨rfl, rfl, rfl, zeroI hΩ, trivial⟩) ?_
  rintro i ⟨hi, he⟩
  cbv
  refine br (fun h => ?_) (fun h => ?_) <;> cbv
  · replace h := ltI hΩ h
    obtain ⟨c, hcc⟩ := at_of (cs := l) (by omega : i < l.length)
    rw [idxFrom_at _ hcc] at he
    refine ⟨⟨nnI hΩ⟩, _, rdI hΩ hxs hcc, ?_⟩
    cbv
    have h1 := hrun c (List.mem_of_getElem? hcc)

    refine call_pure hΩ 4 h1 (ro_cloA hΩ rfl (hro _ 0)) (fits _) rfl rfl ?_
    cbv
    refine br (fun g => ?_) (fun g => ?_) <;> cbv
    · exact .of (congrArg i64 (by rw [he, if_pos g]; subst hΩ; rfl))
    · rw [if_neg (by rw [show p c = false from g]; simp)] at he
      exact ⟨i + 1, ⟨by omega, he⟩, by omega, Sbs.mk rfl rfl ⟨rfl, rfl, rfl, incI hΩ (by omega), trivial⟩⟩
  · replace h := geI hΩ h
    exact .of (congrArg i64 (by rw [he, List.drop_of_length_le (by omega)]; rfl))
theorem c_ContainsFuncI (l : List (Int)) (hl : l.length ≤ 4611686018427387904) (g : Nat) (caps : List A) (p : Int → Bool) (hf : CloB PP (i64) l g caps p) : PCtr PP n_slices_ContainsFunc_L_int64_int64 [.sl false 1 (l.map (i64)), .clo g caps] (boo (l.any p)) := by
  obtain ⟨Ω, hΩ⟩ : ∃ Ω, Ω = std := ⟨_, rfl⟩
  obtain ⟨r, hr⟩ : ∃ r, r = l.any p := ⟨_, rfl⟩
  rw [← hr]
  have hc := c_IndexFuncI l hl g caps p hf
  have hro := hf.ro
  rw [← idx_any] at hr
  generalize idx p l = k at *
  generalize l.map (i64) = xs at *
  have htab := tab
  have hmo := hmo
  have hve := verEq
  refine PCtr.walk tab hΩ fn_slices_ContainsFunc_L_int64_int64 rfl ?_
  generalize PP = P at *
  cbv
  refine call_pure hΩ 5 hc (ro_clo2 rfl (hro _ 0)) (fits _) rfl rfl ?_
  cbv
  refine .of (congrArg boo ?_)
  subst hΩ; subst hr; rfl
theorem c_IndexFuncL (l : List (List Trm)) (hl : l.length ≤ 4611686018427387904) (g : Nat) (caps : List A) (p : List Trm → Bool) (hf : CloB PP (encTs false) l g caps p) : PCtr PP n_slices_IndexFunc_L_L_impl_Term_L_impl_Term [.sl false 1 (l.map (encTs false)), .clo g caps] (i64 (idx p l)) := by
  obtain ⟨Ω, hΩ⟩ : ∃ Ω, Ω = std := ⟨_, rfl⟩
  obtain ⟨r, hr⟩ : ∃ r, r = idx p l := ⟨_, rfl⟩
  rw [← hr]
  obtain ⟨xs, hxs⟩ : ∃ xs, xs = l.map (encTs false) := ⟨_, rfl⟩
  have hlen : xs.length = l.length := by rw [hxs, List.length_map]
  rw [← hxs]
  have hro := hf.ro
  have hrun : ∀ s ∈ l, PCtr PP (Ω.cloN g) (Ω.cloA g [encTs false s] caps) (boo (p s)) := by subst hΩ; exact hf.run
  have htab := tab
  have hmo := hmo
  have hve := verEq
  refine PCtr.walk tab hΩ fn_slices_IndexFunc_L_L_impl_Term_L_impl_Term rfl ?_
  generalize PP = P at *
  cbv
  refine loopX htab hΩ (fun i : Nat => ⟨[(0, .sl false 1 xs), (1, .clo g caps), (7, .sc (.int .i64 (Ω.int (Ω.len xs)))), (8, .sc (.int .i64 (Ω.int i)))], 19, []⟩) (fun i => i ≤ l.length ∧ r = idxFrom p i (l.drop i)) (fun i => l.length - i) 0
    ⟨Nat.zero_le _, hr⟩ (Sbs.mk rfl rfl ⟨rfl, rfl, rfl, zeroI hΩ, trivial⟩) ?_
  rintro i ⟨hi, he⟩
  cbv
  refine br (fun h => ?_) (fun h => ?_) <;> cbv
  · replace h := ltI hΩ h
    obtain ⟨c, hcc⟩ := at_of (cs := l) (by omega : i < l.length)
    rw [idxFrom_at _ hcc] at he
    obtain ⟨cs, hen, hcs⟩ : ∃ cs, encTs false c = .sl false 7 cs ∧ cs = c.map Trm.enc := ⟨_, rfl, rfl⟩
    refine ⟨⟨nnI hΩ⟩, _, (rdI hΩ hxs hcc).trans (congrArg some hen), ?_⟩
    cbv
    have h1 := hrun c (List.mem_of_getElem? hcc)
    rw [hen] at h1
    refine call_pure hΩ 4 h1 (ro_cloA hΩ rfl (hro _ 0)) (fits _) rfl rfl ?_
    cbv
    refine br (fun g => ?_) (fun g => ?_) <;> cbv
    · exact .of (congrArg i64 (by rw [he, if_pos g]; subst hΩ; rfl))
    · rw [if_neg (by rw [show p c = false from g]; simp)] at he
      exact ⟨i + 1, ⟨by omega, he⟩, by omega, Sbs.mk rfl rfl ⟨rfl, rfl, rfl, incI hΩ (by omega), trivial⟩⟩
  · replace h := geI hΩ h
    exact .of (congrArg i64 (by rw [he, List.drop_of_length_le (by omega)]; rfl))
theorem c_ContainsFuncL (l : List (List Trm)) (hl : l.length ≤ 4611686018427387904) (g : Nat) (caps : List A) (p : List Trm → Bool) (hf : CloB PP (encTs false) l g caps p) : PCtr PP n_slices_ContainsFunc_L_L_impl_Term_L_impl_Term [.sl false 1 (l.map (encTs false)), .clo g caps] (boo (l.any p)) := by
  obtain ⟨Ω, hΩ⟩ : ∃ Ω, Ω = std := ⟨_, rfl⟩
  obtain ⟨r, hr⟩ : ∃ r, r = l.any p := ⟨_, rfl⟩
  rw [← hr]
  have hc := c_IndexFuncL l hl g caps p hf
  have hro := hf.ro
  rw [← idx_any] at hr
  generalize idx p l = k at *
  generalize l.map (encTs false) = xs at *
  have htab := tab
  have hmo := hmo
  have hve := verEq
  refine PCtr.walk tab hΩ fn_slices_ContainsFunc_L_L_impl_Term_L_impl_Term rfl ?_
  generalize PP = P at *
  cbv
  refine call_pure hΩ 5 hc (ro_clo2 rfl (hro _ 0)) (fits _) rfl rfl ?_
  cbv
  refine .of (congrArg boo ?_)
  subst hΩ; subst hr; rfl
theorem c_IndexFuncP (l : List (Pck)) (hl : l.length ≤ 4611686018427387904) (g : Nat) (caps : List A) (p : Pck → Bool) (hf : CloB PP (Pck.enc false) l g caps p) : PCtr PP n_slices_IndexFunc_L_impl_Pack_impl_Pack [.sl false 8 (l.map (Pck.enc false)), .clo g caps] (i64 (idx p l)) := by
  obtain ⟨Ω, hΩ⟩ : ∃ Ω, Ω = std := ⟨_, rfl⟩
  obtain ⟨r, hr⟩ : ∃ r, r = idx p l := ⟨_, rfl⟩
  rw [← hr]
  obtain ⟨xs, hxs⟩ : ∃ xs, xs = l.map (Pck.enc false) := ⟨_, rfl⟩
  have hlen : xs.length = l.length := by rw [hxs, List.length_map]
  rw [← hxs]
  have hro := hf.ro
  have hrun : ∀ s ∈ l, PCtr PP (Ω.cloN g) (Ω.cloA g [Pck.enc false s] caps) (boo (p s)) := by subst hΩ; exact hf.run
  have htab := tab
  have hmo := hmo
  have hve := verEq
  refine PCtr.walk tab hΩ fn_slices_IndexFunc_L_impl_Pack_impl_Pack rfl ?_
  generalize PP = P at *
  cbv
  refine loopX htab hΩ (fun i : Nat => ⟨[(0, .sl false 8 xs), (1, .clo g caps), (7, .sc (.int .i64 (Ω.int (Ω.len xs)))), (8, .sc (.int .i64 (Ω.int i)))], 19, []⟩) (fun i => i ≤ l.length ∧ r = idxFrom p i (l.drop i)) (fun i => l.length - i) 0
    ⟨Nat.zero_le _, hr⟩ (Sbs.mk rfl rfl ⟨rfl, rfl, rfl, zeroI hΩ, trivial⟩) ?_
  rintro i ⟨hi, he⟩
  cbv
  refine br (fun h => ?_) (fun h => ?_) <;> cbv
  · replace h := ltI hΩ h
    obtain ⟨c, hcc⟩ := at_of (cs := l) (by omega : i < l.length)
    rw [idxFrom_at _ hcc] at he
    obtain ⟨ps, ds, bs, hen, hps, hds, hbs⟩ := enc_raw c
    refine ⟨⟨nnI hΩ⟩, _, (rdI hΩ hxs hcc).trans (congrArg some hen), ?_⟩
    cbv
    have h1 := hrun c (List.mem_of_getElem? hcc)
    rw [hen] at h1
    refine call_pure hΩ 4 h1 (ro_cloA hΩ rfl (hro _ 0)) (fits _) rfl rfl ?_
    cbv
    refine br (fun g => ?_) (fun g => ?_) <;> cbv
    · exact .of (congrArg i64 (by rw [he, if_pos g]; subst hΩ; rfl))
    · rw [if_neg (by rw [show p c = false from g]; simp)] at he
      exact ⟨i + 1, ⟨by omega, he⟩, by omega, Sbs.mk rfl rfl ⟨rfl, rfl, rfl, incI hΩ (by omega), trivial⟩⟩
  · replace h := geI hΩ h
    exact .of (congrArg i64 (by rw [he, List.drop_of_length_le (by omega)]; rfl))
end Go.Proofs.YtgcnggefeapalaaGreatDoor

/- Walks: what a package gives. Plain theorems. -/
set_option linter.unusedVariables false
set_option linter.unusedSimpArgs false
namespace Go.Proofs.YtgcnggefeapalaaGreatDoor
open Go Go.Fw
set_option maxRecDepth 100000
theorem roV {S : State} {k r len n : Nat} {ys : List A} (hr : Fw.rowAt S.rows r = some ⟨n, ys, false⟩) (hl : len = ys.length) (hf : ys.map frz = ys) : roO S (k + 1) (.vw r 0 len) = some (.sl false n ys) := by
  simp only [roO, hr]
  rw [hl, List.drop_zero, List.take_length, hf]
  rfl
theorem frzStr (l : List (List UInt8)) : (l.map str).map frz = l.map str := by
  rw [List.map_map]; exact List.map_congr_left fun c _ => rfl
theorem roFStr (l : List (List UInt8)) : roFree (strs l) = true := by
  unfold strs
  rw [roFree_sl, Bool.true_and, List.all_eq_true]
  intro x hx
  obtain ⟨c, _, rfl⟩ := List.mem_map.1 hx
  rfl
theorem names_any (o : Pck) (t : Trm) : (o.n :: o.p).any (fun s => hasB t s o.v) = givesB o t := by
  unfold givesB hasB
  rw [List.any_cons, show (t.n == t.n) = true by simp, Bool.true_and]
  generalize (decide (cmpV t.l o.v ≤ 0) && decide (cmpV o.v t.h < 0)) = X
  cases X
  · simp
  · simp only [Bool.and_true]
    congr 2
    funext s
    exact beqSymm _ _
theorem c_gives1 (o : Pck) (t : Trm) (s : List UInt8) {ps ds bs : List A} : PCtr PP n_impl_Pack_gives_1 [str s, .rp t.cells, .rp [str o.n, i64 o.v.a, i64 o.v.b, i64 o.v.c, i64 o.s, .sl false 1 ps, .sl false 1 ds, .sl false 7 bs]] (boo (hasB t s o.v)) := by
  obtain ⟨Ω, hΩ⟩ : ∃ Ω, Ω = std := ⟨_, rfl⟩
  have hc := c_has t s o.v
  generalize hasB t s o.v = r at *
  have htab := tab
  refine PCtr.walk tab hΩ fn_impl_Pack_gives_1 rfl ?_
  generalize PP = P at *
  cbv
  refine call_pure hΩ 3 hc rfl (fits _) rfl rfl ?_
  cbv
  exact .same
theorem c_gives (o : Pck) (t : Trm) (hl : o.p.length ≤ 1048576) : PCtr PP n_impl_Pack_gives [o.enc false, t.enc] (boo (givesB o t)) := by
  obtain ⟨Ω, hΩ⟩ : ∃ Ω, Ω = std := ⟨_, rfl⟩
  obtain ⟨r, hr⟩ : ∃ r, r = givesB o t := ⟨_, rfl⟩
  rw [← hr]
  obtain ⟨ps, ds, bs, hen, hps, hds, hbs⟩ := enc_raw o
  rw [hen]
  have hn := c_names o hl
  have hcf : PCtr PP n_slices_ContainsFunc_L_string_string [.sl false 1 ((o.n :: o.p).map str), .clo n_impl_Pack_gives_1 [.rp t.cells, .rp [str o.n, i64 o.v.a, i64 o.v.b, i64 o.v.c, i64 o.s, .sl false 1 ps, .sl false 1 ds, .sl false 7 bs]]] (boo r) := by
    rw [hr, ← names_any]
    exact c_ContainsFuncS _ (by simp; omega) _ _ _ ⟨fun S k => rfl, rfl, fun _ => rfl, fun s _ => c_gives1 o t s⟩
  have hrf := roFStr (o.n :: o.p)
  have hzf := frzStr (o.n :: o.p)
  rw [hen] at hn
  unfold strs at hn hrf
  generalize (o.n :: o.p).map str = zs at *
  have htab := tab
  have hmo := hmo
  have hve := verEq
  refine PCtr.walk tab hΩ fn_impl_Pack_gives rfl ?_
  generalize PP = P at *
  cbv
  refine call_pure hΩ 3 hn rfl (fits _) hrf rfl ?_
  cbv
  refine call_pure hΩ 5 hcf (ro_clo2 (roV rfl (by subst hΩ; rfl) hzf) rfl) (fits _) rfl rfl ?_
  cbv
  exact .same
theorem c_givesOne (o : Pck) (l : List Trm) (ho : o.p.length ≤ 1048576) (hl : l.length ≤ 1048576) : PCtr PP n_impl_Pack_givesOne [o.enc false, .sl false 7 (l.map Trm.enc)] (boo (l.any (givesB o))) := by
  obtain ⟨Ω, hΩ⟩ : ∃ Ω, Ω = std := ⟨_, rfl⟩
  obtain ⟨r, hr⟩ : ∃ r, r = l.any (givesB o) := ⟨_, rfl⟩
  rw [← hr]
  obtain ⟨ps, ds, bs, hen, hps, hds, hbs⟩ := enc_raw o
  rw [hen]
  have hcf : PCtr PP n_slices_ContainsFunc_L_impl_Term_impl_Term [.sl false 7 (l.map Trm.enc), .clo (1000000 + n_impl_Pack_gives) [.agg [str o.n, i64 o.v.a, i64 o.v.b, i64 o.v.c, i64 o.s, .sl false 1 ps, .sl false 1 ds, .sl false 7 bs]]] (boo r) := by
    rw [hr, ← hen]
    exact c_ContainsFuncT _ (by omega) _ _ _ ⟨fun S k => by rw [hen]; rfl, by rw [hen]; rfl, fun _ => by rw [hen]; rfl, fun t _ => c_gives o t ho⟩
  generalize l.map Trm.enc = xs at *
  have htab := tab
  have hmo := hmo
  have hve := verEq
  refine PCtr.walk tab hΩ fn_impl_Pack_givesOne rfl ?_
  generalize PP = P at *
  cbv
  refine call_pure hΩ 5 hcf (ro_clo2 rfl rfl) (fits _) rfl rfl ?_
  cbv
  exact .same
end Go.Proofs.YtgcnggefeapalaaGreatDoor

/- Walks: faults of packages. Plain theorems. -/
set_option linter.unusedVariables false
set_option linter.unusedSimpArgs false
namespace Go.Proofs.YtgcnggefeapalaaGreatDoor
open Go Go.Fw
set_option maxRecDepth 100000
def provFrom (n : List UInt8) (all : List (List UInt8)) : Nat → List (List UInt8) → Int
  | _, [] => 0
  | i, x :: xs => if nameF x ≠ 0 then nameF x else if (x == n || (all.take i).any (· == x)) = true then 6 else provFrom n all (i + 1) xs
theorem provFrom_at (n : List UInt8) {cs : List (List UInt8)} {i : Nat} {c : List UInt8} (h : cs[i]? = some c) : provFrom n cs i (cs.drop i) = if nameF c ≠ 0 then nameF c else if (c == n || (cs.take i).any (· == c)) = true then 6 else provFrom n cs (i + 1) (cs.drop (i + 1)) := by
  obtain ⟨h1, h2⟩ := List.getElem?_eq_some_iff.1 h
  conv => lhs; rw [List.drop_eq_getElem_cons h1, h2, provFrom]
def needF (l : List Trm) : Int := if l.length = 0 then 1 else firstF trmF l
def packF (o : Pck) : Int :=
  if nameF o.n ≠ 0 then nameF o.n else if verF o.v ≠ 0 then verF o.v else if inB o.s 1 200 = false then 3 else
  if 4 < o.p.length ∨ 4 < o.d.length ∨ 4 < o.b.length ∨ o.d.any (fun l => decide (4 < l.length)) = true then 2 else
  if provFrom o.n o.p 0 o.p ≠ 0 then provFrom o.n o.p 0 o.p else if firstF needF o.d ≠ 0 then firstF needF o.d else firstF trmF o.b
structure Pck.Small (o : Pck) : Prop where
  p : o.p.length ≤ 1048576
  d : o.d.length ≤ 1048576
  b : o.b.length ≤ 1048576
  e : ∀ l ∈ o.d, l.length ≤ 1048576
theorem c_firstCode (l : List Int) (hl : l.length ≤ 1048576) : PCtr PP n_impl_firstCode [.sl false 1 (l.map i64)] (i64 (orF l)) := by
  obtain ⟨Ω, hΩ⟩ : ∃ Ω, Ω = std := ⟨_, rfl⟩
  obtain ⟨r, hr⟩ : ∃ r, r = orF l := ⟨_, rfl⟩
  rw [← hr]
  obtain ⟨xs, hxs⟩ : ∃ xs, xs = l.map i64 := ⟨_, rfl⟩
  have hlen : xs.length = l.length := by rw [hxs, List.length_map]
  rw [← hxs]
  have htab := tab
  have hmo := hmo
  have hve := verEq
  refine PCtr.walk tab hΩ fn_impl_firstCode rfl ?_
  generalize PP = P at *
  cbv
  refine loopX htab hΩ (fun i : Nat => ⟨[(5, .sl false 1 xs), (6, .sc (.int .i64 (Ω.int (Ω.len xs)))), (7, .sc (.int .i64 (Ω.int i)))], 15, []⟩) (fun i => i ≤ l.length ∧ r = orF (l.drop i)) (fun i => l.length - i) 0
    ⟨Nat.zero_le _, hr⟩ (Sbs.mk rfl rfl ⟨rfl, rfl, zeroI hΩ, trivial⟩) ?_
  rintro i ⟨hi, he⟩
  cbv
  refine br (fun h => ?_) (fun h => ?_) <;> cbv
  · replace h := ltI hΩ h
    obtain ⟨c, hcc⟩ := at_of (cs := l) (by omega : i < l.length)
    rw [orF_at hcc] at he
    refine ⟨⟨nnI hΩ⟩, _, rdI hΩ hxs hcc, ?_⟩
    cbv
    refine br (fun g => ?_) (fun g => ?_) <;> cbv
    · exact .of (congrArg i64 (by rw [he, if_pos (neI_t hΩ g)]))
    · rw [if_neg (by rw [neI_f hΩ g]; simp)] at he
      exact ⟨i + 1, ⟨by omega, he⟩, by omega, Sbs.mk rfl rfl ⟨rfl, rfl, incI hΩ (by omega), trivial⟩⟩
  · replace h := geI hΩ h
    exact .of (congrArg i64 (by rw [he, List.drop_of_length_le (by omega)]; rfl))
theorem c_PackFault1 (l : List Trm) : PCtr PP n_impl_PackFault_1 [encTs false l] (boo (decide (4 < l.length))) := by
  obtain ⟨Ω, hΩ⟩ : ∃ Ω, Ω = std := ⟨_, rfl⟩
  obtain ⟨r, hr⟩ : ∃ r, r = decide (4 < l.length) := ⟨_, rfl⟩
  rw [← hr]
  obtain ⟨cs, hen, hcs⟩ : ∃ cs, encTs false l = .sl false 7 cs ∧ cs = l.map Trm.enc := ⟨_, rfl, rfl⟩
  rw [hen]
  rw [show l.length = cs.length by rw [hcs, List.length_map]] at hr
  have htab := tab
  have hmo := hmo
  have hve := verEq
  refine PCtr.walk tab hΩ fn_impl_PackFault_1 rfl ?_
  generalize PP = P at *
  cbv
  exact .of (congrArg boo (by rw [hr]; subst hΩ; rw [Bool.eq_iff_iff]; simp; omega))
theorem c_implPackFault (o : Pck) (ho : o.Small) : PCtr PP n_impl_PackFault [o.enc false] (i64 (packF o)) := by
  obtain ⟨Ω, hΩ⟩ : ∃ Ω, Ω = std := ⟨_, rfl⟩
  obtain ⟨r, hr⟩ : ∃ r, r = packF o := ⟨_, rfl⟩
  rw [← hr]
  obtain ⟨ps, ds, bs, hen, hps, hds, hbs⟩ := enc_raw o
  rw [hen]
  have hpl : ps.length = o.p.length := by rw [hps, List.length_map]
  have hdl : ds.length = o.d.length := by rw [hds, List.length_map]
  have hbl : bs.length = o.b.length := by rw [hbs, List.length_map]
  have hn0 := c_implNameFault o.n
  have hn : ∀ s, ∃ k, nameF s = k ∧ PCtr PP n_impl_NameFault [str s] (i64 k) := fun s => ⟨_, rfl, c_implNameFault s⟩
  have hv := c_implVersionFault o.v
  have hw := c_within o.s 1 200
  have ht := c_termsFault o.b (by have := ho.b; omega)
  have htl : ∀ l ∈ o.d, PCtr PP n_impl_termsFault [.sl false 7 (l.map Trm.enc)] (i64 (firstF trmF l)) := fun l hl => c_termsFault l (by have := ho.e l hl; omega)
  have h1 := ho.p
  have h2 := ho.d
  have h3 := ho.b
  unfold packF at hr
  rw [← hbs] at ht
  obtain ⟨cN, hcN⟩ : ∃ x, nameF o.n = x := ⟨_, rfl⟩
  obtain ⟨cV, hcV⟩ : ∃ x, verF o.v = x := ⟨_, rfl⟩
  obtain ⟨bW, hbW⟩ : ∃ x, inB o.s 1 200 = x := ⟨_, rfl⟩
  obtain ⟨cP, hcP⟩ : ∃ x, provFrom o.n o.p 0 o.p = x := ⟨_, rfl⟩
  obtain ⟨cD, hcD⟩ : ∃ x, firstF needF o.d = x := ⟨_, rfl⟩
  obtain ⟨cB, hcB⟩ : ∃ x, firstF trmF o.b = x := ⟨_, rfl⟩
  have hn1 := hn0
  clear hn0
  rw [hcN] at hr hn1
  rw [hcV] at hr hv
  rw [hbW] at hr hw
  rw [hcB] at hr ht
  rw [hcP, hcD] at hr
  have hcf := c_firstCode [cN, cV] (by simp)
  obtain ⟨fc, hfc⟩ : ∃ x, orF [cN, cV] = x := ⟨_, rfl⟩
  rw [hfc] at hcf
  have hany := c_ContainsFuncL o.d (by omega) n_impl_PackFault_1 [] (fun l => decide (4 < l.length)) ⟨fun _ _ => rfl, rfl, fun _ => rfl, fun l _ => c_PackFault1 l⟩
  rw [← hds] at hany
  generalize (o.d.any fun l => decide (4 < l.length)) = bA at *
  have hhas := fun (l : List (List UInt8)) s (hl : l.length ≤ 1048576) => c_ContainsS l s (by omega)
  have hr : r = if fc ≠ 0 then fc else if bW = false then 3 else if 4 < o.p.length ∨ 4 < o.d.length ∨ 4 < o.b.length ∨ bA = true then 2 else if cP ≠ 0 then cP else if cD ≠ 0 then cD else cB := by
    rw [hr, ← hfc]
    simp only [orF]
    by_cases e1 : cN = 0
    · by_cases e2 : cV = 0
      · simp [e1, e2]
      · simp [e1, e2]
    · simp [e1]
  have htab := tab
  have hmo := hmo
  have hve := verEq
  refine PCtr.walk tab hΩ fn_impl_PackFault rfl ?_
  generalize PP = P at *
  cbv
  refine ⟨VC_tail htab hΩ hmo 6 (by kernel_rfl) ?_⟩
  cbv
  refine QCall_pure (k := 3) hn1 rfl (fits _) rfl ?_
  cbv
  refine QCall_pure (k := 3) hv rfl (fits _) rfl ?_
  cbv
  refine call_pure hΩ 3 hcf rfl (fits _) rfl rfl ?_
  cbv
  refine br (fun g => ?_) (fun g => ?_) <;> cbv
  · exact .of (congrArg i64 (by rw [hr, if_pos (neI_t hΩ g)]))
  rw [if_neg (by rw [neI_f hΩ g]; simp)] at hr
  refine call_pure hΩ 3 hw rfl (fits _) rfl rfl ?_
  cbv
  refine br (fun g => ?_) (fun g => ?_) <;> cbv
  · exact .of (congrArg i64 (by rw [hr, if_pos (notT' hΩ g)]))
  rw [if_neg (by rw [notF' hΩ g]; simp)] at hr
  refine br (fun q1 => ?_) (fun q1 => ?_) <;> cbv
  · exact .of (congrArg i64 (by rw [hr, if_pos (.inl (by subst hΩ; have q1 : (4 : Int) < ps.length := gt_t q1; omega))]))
  refine br (fun q2 => ?_) (fun q2 => ?_) <;> cbv
  · exact .of (congrArg i64 (by rw [hr, if_pos (.inr (.inl (by subst hΩ; have q2 : (4 : Int) < ds.length := gt_t q2; omega)))]))
  refine br (fun q3 => ?_) (fun q3 => ?_) <;> cbv
  · exact .of (congrArg i64 (by rw [hr, if_pos (.inr (.inr (.inl (by subst hΩ; have q3 : (4 : Int) < bs.length := gt_t q3; omega))))]))
  have q1 : o.p.length ≤ 4 := by subst hΩ; have q1 : (ps.length : Int) ≤ 4 := gt_f q1; omega
  have q2 : o.d.length ≤ 4 := by subst hΩ; have q2 : (ds.length : Int) ≤ 4 := gt_f q2; omega
  have q3 : o.b.length ≤ 4 := by subst hΩ; have q3 : (bs.length : Int) ≤ 4 := gt_f q3; omega
  refine call_pure hΩ 3 hany rfl (fits _) rfl rfl ?_
  cbv
  refine br (fun q4 => ?_) (fun q4 => ?_) <;> cbv
  · exact .of (congrArg i64 (by rw [hr, if_pos (.inr (.inr (.inr (by subst hΩ; exact q4))))]))
  have q4 : bA = false := by subst hΩ; exact q4
  rw [if_neg (by rw [q4]; simp; omega)] at hr
  refine loopX htab hΩ (fun i : Nat => ⟨[(1, .pt 0 0 0), (49, .sl false 1 ps), (50, .sc (.int .i64 (Ω.int (Ω.len ps)))), (51, .sc (.int .i64 (Ω.int i)))], 93, [some ⟨8, [.agg [str o.n, i64 o.v.a, i64 o.v.b, i64 o.v.c, i64 o.s, .sl false 1 ps, .sl false 1 ds, .sl false 7 bs]], true⟩]⟩) (fun i => i ≤ o.p.length ∧ cP = provFrom o.n o.p i (o.p.drop i)) (fun i => o.p.length - i) 0
    ⟨Nat.zero_le _, hcP.symm⟩ (Sbs.mkL (rows := [_]) rfl rfl rfl ⟨rfl, rfl, rfl, zeroI hΩ, trivial⟩) ?_
  rintro i ⟨hi, he⟩
  cbv
  refine br (fun h => ?_) (fun h => ?_) <;> cbv
  · replace h := ltI hΩ h
    obtain ⟨c, hcc⟩ := at_of (cs := o.p) (by omega : i < o.p.length)
    rw [provFrom_at _ hcc] at he
    refine ⟨⟨nnI hΩ⟩, _, rdI hΩ hps hcc, ?_⟩
    cbv
    obtain ⟨kc, hkc, hnc⟩ := hn c
    rw [hkc] at he
    refine call_pure hΩ 3 hnc rfl (fits _) rfl rfl ?_
    cbv
    refine br (fun g => ?_) (fun g => ?_) <;> cbv
    · refine .of (congrArg i64 ?_)
      have g := neI_t hΩ g
      rw [if_pos g] at he
      rw [hr, if_pos (by rw [he]; exact g), he]
    rw [if_neg (by rw [neI_f hΩ g]; simp)] at he
    have hh : PCtr P n_slices_Contains_L_string_string [.sl false 1 (Ω.seg 0 (Ω.nat (Ω.int i)) ps), str c] (boo ((o.p.take i).any (· == c))) := by
      subst hΩ
      have := hhas (o.p.take i) c (by simp; omega)
      rw [List.map_take, ← hps] at this
      exact this
    generalize (o.p.take i).any (· == c) = bh at *
    refine br (fun g1 => ?_) (fun g1 => ?_) <;> cbv
    · refine .of (congrArg i64 ?_)
      rw [if_pos (by rw [show (c == o.n) = true by subst hΩ; exact g1]; rfl)] at he
      rw [hr, if_pos (by rw [he]; decide), he]
    have g1 : (c == o.n) = false := by subst hΩ; exact g1
    rw [g1, Bool.false_or] at he
    refine ⟨⟨trivial, nnI hΩ, Nat.zero_le _, by subst hΩ; show i ≤ ps.length; omega⟩, ?_⟩
    refine call_pure hΩ 3 hh rfl (fits _) rfl rfl ?_
    cbv
    refine br (fun g2 => ?_) (fun g2 => ?_) <;> cbv
    · refine .of (congrArg i64 ?_)
      rw [if_pos (by subst hΩ; exact g2)] at he
      rw [hr, if_pos (by rw [he]; decide), he]
    rw [if_neg (by rw [show bh = false by subst hΩ; exact g2]; simp)] at he
    exact ⟨i + 1, ⟨by omega, he⟩, by omega, Sbs.mk rfl rfl ⟨rfl, rfl, rfl, incI hΩ (by omega), trivial⟩⟩
  · replace h := geI hΩ h
    rw [List.drop_of_length_le (by omega), provFrom] at he
    rw [if_neg (by rw [he]; simp)] at hr
    clear he h hi
    refine loopX htab hΩ (fun i : Nat => ⟨[(1, .pt 0 0 0), (75, .sl false 1 ds), (76, .sc (.int .i64 (Ω.int (Ω.len ds)))), (77, .sc (.int .i64 (Ω.int i)))], 93, [some ⟨8, [.agg [str o.n, i64 o.v.a, i64 o.v.b, i64 o.v.c, i64 o.s, .sl false 1 ps, .sl false 1 ds, .sl false 7 bs]], true⟩]⟩) (fun i => i ≤ o.d.length ∧ cD = firstF needF (o.d.drop i)) (fun i => o.d.length - i) 0
      ⟨Nat.zero_le _, hcD.symm⟩ (Sbs.mk rfl rfl ⟨rfl, rfl, rfl, zeroI hΩ, trivial⟩) ?_
    rintro i ⟨hi, he⟩
    cbv
    refine br (fun h => ?_) (fun h => ?_) <;> cbv
    · replace h := ltI hΩ h
      obtain ⟨c, hcc⟩ := at_of (cs := o.d) (by omega : i < o.d.length)
      rw [firstF_at _ hcc] at he
      obtain ⟨cs, hen2, hcs⟩ : ∃ cs, encTs false c = .sl false 7 cs ∧ cs = c.map Trm.enc := ⟨_, rfl, rfl⟩
      have hcl : cs.length = c.length := by rw [hcs, List.length_map]
      refine ⟨⟨nnI hΩ⟩, _, (rdI hΩ hds hcc).trans (congrArg some hen2), ?_⟩
      cbv
      refine br (fun g => ?_) (fun g => ?_) <;> cbv
      · refine .of (congrArg i64 ?_)
        have g : c.length = 0 := by subst hΩ; have g : (cs.length : Int) = 0 := eq_t g; omega
        rw [hr, if_pos] <;> rw [he, show needF c = 1 by rw [needF, if_pos g]] <;> simp
      have g : c.length ≠ 0 := by subst hΩ; have g : (cs.length : Int) ≠ 0 := eq_f g; omega
      have hnf : needF c = firstF trmF c := by rw [needF, if_neg g]
      have htc := htl c (List.mem_of_getElem? hcc)
      rw [← hcs, ← hnf] at htc
      generalize needF c = kc at *
      refine call_pure hΩ 3 htc rfl (fits _) rfl rfl ?_
      cbv
      refine br (fun g => ?_) (fun g => ?_) <;> cbv
      · refine .of (congrArg i64 ?_)
        have g := neI_t hΩ g
        rw [if_pos g] at he
        rw [hr, if_pos (by rw [he]; exact g), he]
      · rw [if_neg (by rw [neI_f hΩ g]; simp)] at he
        exact ⟨i + 1, ⟨by omega, he⟩, by omega, Sbs.mk rfl rfl ⟨rfl, rfl, rfl, incI hΩ (by omega), trivial⟩⟩
    · replace h := geI hΩ h
      rw [List.drop_of_length_le (by omega), firstF] at he
      rw [if_neg (by rw [he]; simp)] at hr
      refine call_pure hΩ 3 ht rfl (fits _) rfl rfl ?_
      cbv
      exact .of (congrArg i64 hr.symm)
theorem c_specPackFault (o : Pck) (ho : o.Small) : PCtr PP n_spec_PackFault [o.enc false] (i64 (packF o)) := by
  obtain ⟨Ω, hΩ⟩ : ∃ Ω, Ω = std := ⟨_, rfl⟩
  obtain ⟨r, hr⟩ : ∃ r, r = packF o := ⟨_, rfl⟩
  rw [← hr]
  obtain ⟨ps, ds, bs, hen, hps, hds, hbs⟩ := enc_raw o
  rw [hen]
  have hpl : ps.length = o.p.length := by rw [hps, List.length_map]
  have hdl : ds.length = o.d.length := by rw [hds, List.length_map]
  have hbl : bs.length = o.b.length := by rw [hbs, List.length_map]
  have hn0 := c_specNameFault o.n
  have hn : ∀ s, ∃ k, nameF s = k ∧ PCtr PP n_spec_NameFault [str s] (i64 k) := fun s => ⟨_, rfl, c_specNameFault s⟩
  have hv := c_specVersionFault o.v
  have hw := c_l1In o.s 1 200
  have ht := c_l2Terms o.b (by have := ho.b; omega)
  have htl : ∀ l ∈ o.d, PCtr PP n_spec_l2Terms [.sl false 7 (l.map Trm.enc)] (i64 (firstF trmF l)) := fun l hl => c_l2Terms l (by have := ho.e l hl; omega)
  have h1 := ho.p
  have h2 := ho.d
  have h3 := ho.b
  unfold packF at hr
  rw [← hbs] at ht
  obtain ⟨cN, hcN⟩ : ∃ x, nameF o.n = x := ⟨_, rfl⟩
  obtain ⟨cV, hcV⟩ : ∃ x, verF o.v = x := ⟨_, rfl⟩
  obtain ⟨bW, hbW⟩ : ∃ x, inB o.s 1 200 = x := ⟨_, rfl⟩
  obtain ⟨cP, hcP⟩ : ∃ x, provFrom o.n o.p 0 o.p = x := ⟨_, rfl⟩
  obtain ⟨cD, hcD⟩ : ∃ x, firstF needF o.d = x := ⟨_, rfl⟩
  obtain ⟨cB, hcB⟩ : ∃ x, firstF trmF o.b = x := ⟨_, rfl⟩
  have hn1 := hn0
  clear hn0
  rw [hcN] at hr hn1
  rw [hcV] at hr hv
  rw [hbW] at hr hw
  rw [hcB] at hr ht
  rw [hcP, hcD] at hr
  obtain ⟨bA, hbA⟩ : ∃ x, (o.d.any fun l => decide (4 < l.length)) = x := ⟨_, rfl⟩
  rw [hbA] at hr
  have hhas := fun (l : List (List UInt8)) s (hl : l.length ≤ 1048576) => c_l2Holds l s (by omega)
  have htab := tab
  have hmo := hmo
  have hve := verEq
  refine PCtr.walk tab hΩ fn_spec_PackFault rfl ?_
  generalize PP = P at *
  cbv
  refine call_pure hΩ 3 hn1 rfl (fits _) rfl rfl ?_
  cbv
  refine br (fun g => ?_) (fun g => ?_) <;> cbv
  · exact .of (congrArg i64 (by rw [hr, if_pos (neI_t hΩ g)]))
  rw [if_neg (by rw [neI_f hΩ g]; simp)] at hr
  refine call_pure hΩ 3 hv rfl (fits _) rfl rfl ?_
  cbv
  refine br (fun g => ?_) (fun g => ?_) <;> cbv
  · exact .of (congrArg i64 (by rw [hr, if_pos (neI_t hΩ g)]))
  rw [if_neg (by rw [neI_f hΩ g]; simp)] at hr
  refine call_pure hΩ 3 hw rfl (fits _) rfl rfl ?_
  cbv
  refine br (fun g => ?_) (fun g => ?_) <;> cbv
  · exact .of (congrArg i64 (by rw [hr, if_pos (notT' hΩ g)]))
  rw [if_neg (by rw [notF' hΩ g]; simp)] at hr
  refine br (fun q1 => ?_) (fun q1 => ?_) <;> cbv
  · exact .of (congrArg i64 (by rw [hr, if_pos (.inl (by subst hΩ; have q1 : (4 : Int) < ps.length := gt_t q1; omega))]))
  refine br (fun q2 => ?_) (fun q2 => ?_) <;> cbv
  · exact .of (congrArg i64 (by rw [hr, if_pos (.inr (.inl (by subst hΩ; have q2 : (4 : Int) < ds.length := gt_t q2; omega)))]))
  refine br (fun q3 => ?_) (fun q3 => ?_) <;> cbv
  · exact .of (congrArg i64 (by rw [hr, if_pos (.inr (.inr (.inl (by subst hΩ; have q3 : (4 : Int) < bs.length := gt_t q3; omega))))]))
  have q1 : o.p.length ≤ 4 := by subst hΩ; have q1 : (ps.length : Int) ≤ 4 := gt_f q1; omega
  have q2 : o.d.length ≤ 4 := by subst hΩ; have q2 : (ds.length : Int) ≤ 4 := gt_f q2; omega
  have q3 : o.b.length ≤ 4 := by subst hΩ; have q3 : (bs.length : Int) ≤ 4 := gt_f q3; omega
  refine loopX htab hΩ (fun i : Nat => ⟨[(1, .pt 0 0 0), (5, .sc (.int .i64 (Ω.int i)))], 118, [some ⟨8, [.agg [str o.n, i64 o.v.a, i64 o.v.b, i64 o.v.c, i64 o.s, .sl false 1 ps, .sl false 1 ds, .sl false 7 bs]], true⟩]⟩) (fun i => i ≤ o.d.length ∧ bA = (o.d.drop i).any (fun l => decide (4 < l.length))) (fun i => o.d.length - i) 0
    ⟨Nat.zero_le _, hbA.symm⟩ (Sbs.mk rfl rfl ⟨rfl, zeroI hΩ, trivial⟩) ?_
  rintro i ⟨hi, he⟩
  cbv
  refine br (fun h => ?_) (fun h => ?_) <;> cbv
  · replace h := ltI hΩ h
    obtain ⟨c, hcc⟩ := at_of (cs := o.d) (by omega : i < o.d.length)
    rw [any_at _ hcc] at he
    obtain ⟨cs, hen2, hcs⟩ : ∃ cs, encTs false c = .sl false 7 cs ∧ cs = c.map Trm.enc := ⟨_, rfl, rfl⟩
    have hcl : cs.length = c.length := by rw [hcs, List.length_map]
    refine ⟨⟨nnI hΩ⟩, _, (rdI hΩ hds hcc).trans (congrArg some hen2), ?_⟩
    cbv
    refine br (fun g => ?_) (fun g => ?_) <;> cbv
    · refine .of (congrArg i64 ?_)
      have g : 4 < c.length := by subst hΩ; have g : (4 : Int) < cs.length := gt_t g; omega
      rw [decide_eq_true g, Bool.true_or] at he
      rw [hr, if_pos (.inr (.inr (.inr he)))]
    have g : ¬ 4 < c.length := by subst hΩ; have g : (cs.length : Int) ≤ 4 := gt_f g; omega
    rw [decide_eq_false g, Bool.false_or] at he
    exact ⟨i + 1, ⟨by omega, he⟩, by omega, Sbs.mk rfl rfl ⟨rfl, incI hΩ (by omega), trivial⟩⟩
  · replace h := geI hΩ h
    rw [List.drop_of_length_le (by omega), List.any_nil] at he
    rw [if_neg (by rw [he]; simp; omega)] at hr
    clear he h hi
    refine loopX htab hΩ (fun i : Nat => ⟨[(1, .pt 0 0 0), (6, .sc (.int .i64 (Ω.int i)))], 118, [some ⟨8, [.agg [str o.n, i64 o.v.a, i64 o.v.b, i64 o.v.c, i64 o.s, .sl false 1 ps, .sl false 1 ds, .sl false 7 bs]], true⟩]⟩) (fun i => i ≤ o.p.length ∧ cP = provFrom o.n o.p i (o.p.drop i)) (fun i => o.p.length - i) 0
      ⟨Nat.zero_le _, hcP.symm⟩ (Sbs.mk rfl rfl ⟨rfl, zeroI hΩ, trivial⟩) ?_
    rintro i ⟨hi, he⟩
    cbv
    refine br (fun h => ?_) (fun h => ?_) <;> cbv
    · replace h := ltI hΩ h
      obtain ⟨c, hcc⟩ := at_of (cs := o.p) (by omega : i < o.p.length)
      rw [provFrom_at _ hcc] at he
      refine ⟨⟨nnI hΩ⟩, _, rdI hΩ hps hcc, ?_⟩
      cbv
      obtain ⟨kc, hkc, hnc⟩ := hn c
      rw [hkc] at he
      refine call_pure hΩ 3 hnc rfl (fits _) rfl rfl ?_
      cbv
      refine br (fun g => ?_) (fun g => ?_) <;> cbv
      · refine .of (congrArg i64 ?_)
        have g := neI_t hΩ g
        rw [if_pos g] at he
        rw [hr, if_pos (by rw [he]; exact g), he]
      rw [if_neg (by rw [neI_f hΩ g]; simp)] at he
      have hh : PCtr P n_spec_l2Holds [.sl false 1 (Ω.seg 0 (Ω.nat (Ω.int i)) ps), str c] (boo ((o.p.take i).any (· == c))) := by
        subst hΩ
        have := hhas (o.p.take i) c (by simp; omega)
        rw [List.map_take, ← hps] at this
        exact this
      generalize (o.p.take i).any (· == c) = bh at *
      refine ⟨VC_drawn htab hΩ hmo (by kernel_rfl) ?_⟩
      cbv
      refine ⟨⟨nnI hΩ⟩, _, rdI hΩ hps hcc, ?_⟩
      cbv
      refine br (fun g1 => ?_) (fun g1 => ?_) <;> cbv
      · refine .of (congrArg i64 ?_)
        rw [if_pos (by rw [show (c == o.n) = true by subst hΩ; exact g1]; rfl)] at he
        rw [hr, if_pos (by rw [he]; decide), he]
      have g1 : (c == o.n) = false := by subst hΩ; exact g1
      rw [g1, Bool.false_or] at he
      refine ⟨⟨trivial, nnI hΩ, Nat.zero_le _, by subst hΩ; show i ≤ ps.length; omega⟩, ?_⟩
      refine ⟨⟨nnI hΩ⟩, _, rdI hΩ hps hcc, ?_⟩
      cbv
      refine QCall_pure (k := 3) hh rfl (fits _) rfl ?_
      cbv
      refine br (fun g2 => ?_) (fun g2 => ?_) <;> cbv
      · refine .of (congrArg i64 ?_)
        rw [if_pos (by subst hΩ; exact g2)] at he
        rw [hr, if_pos (by rw [he]; decide), he]
      rw [if_neg (by rw [show bh = false by subst hΩ; exact g2]; simp)] at he
      exact ⟨i + 1, ⟨by omega, he⟩, by omega, Sbs.mk rfl rfl ⟨rfl, incI hΩ (by omega), trivial⟩⟩
    · replace h := geI hΩ h
      rw [List.drop_of_length_le (by omega), provFrom] at he
      rw [if_neg (by rw [he]; simp)] at hr
      clear he h hi
      refine loopX htab hΩ (fun i : Nat => ⟨[(1, .pt 0 0 0), (8, .sc (.int .i64 (Ω.int i)))], 118, [some ⟨8, [.agg [str o.n, i64 o.v.a, i64 o.v.b, i64 o.v.c, i64 o.s, .sl false 1 ps, .sl false 1 ds, .sl false 7 bs]], true⟩]⟩) (fun i => i ≤ o.d.length ∧ cD = firstF needF (o.d.drop i)) (fun i => o.d.length - i) 0
        ⟨Nat.zero_le _, hcD.symm⟩ (Sbs.mk rfl rfl ⟨rfl, zeroI hΩ, trivial⟩) ?_
      rintro i ⟨hi, he⟩
      cbv
      refine br (fun h => ?_) (fun h => ?_) <;> cbv
      · replace h := ltI hΩ h
        obtain ⟨c, hcc⟩ := at_of (cs := o.d) (by omega : i < o.d.length)
        rw [firstF_at _ hcc] at he
        obtain ⟨cs, hen2, hcs⟩ : ∃ cs, encTs false c = .sl false 7 cs ∧ cs = c.map Trm.enc := ⟨_, rfl, rfl⟩
        have hcl : cs.length = c.length := by rw [hcs, List.length_map]
        refine ⟨⟨nnI hΩ⟩, _, (rdI hΩ hds hcc).trans (congrArg some hen2), ?_⟩
        cbv
        refine br (fun g => ?_) (fun g => ?_) <;> cbv
        · refine .of (congrArg i64 ?_)
          have g : c.length = 0 := by subst hΩ; have g : (cs.length : Int) = 0 := eq_t g; omega
          rw [hr, if_pos] <;> rw [he, show needF c = 1 by rw [needF, if_pos g]] <;> simp
        have g : c.length ≠ 0 := by subst hΩ; have g : (cs.length : Int) ≠ 0 := eq_f g; omega
        have hnf : needF c = firstF trmF c := by rw [needF, if_neg g]
        have htc := htl c (List.mem_of_getElem? hcc)
        rw [← hcs, ← hnf] at htc
        generalize needF c = kc at *
        refine ⟨⟨nnI hΩ⟩, _, (rdI hΩ hds hcc).trans (congrArg some hen2), ?_⟩
        cbv
        refine call_pure hΩ 3 htc rfl (fits _) rfl rfl ?_
        cbv
        refine br (fun g => ?_) (fun g => ?_) <;> cbv
        · refine .of (congrArg i64 ?_)
          have g := neI_t hΩ g
          rw [if_pos g] at he
          rw [hr, if_pos (by rw [he]; exact g), he]
        · rw [if_neg (by rw [neI_f hΩ g]; simp)] at he
          exact ⟨i + 1, ⟨by omega, he⟩, by omega, Sbs.mk rfl rfl ⟨rfl, incI hΩ (by omega), trivial⟩⟩
      · replace h := geI hΩ h
        rw [List.drop_of_length_le (by omega), firstF] at he
        rw [if_neg (by rw [he]; simp)] at hr
        refine call_pure hΩ 3 ht rfl (fits _) rfl rfl ?_
        cbv
        exact .of (congrArg i64 hr.symm)
end Go.Proofs.YtgcnggefeapalaaGreatDoor

/- Walks: faults of catalogs and sets. Plain theorems. -/
set_option linter.unusedVariables false
set_option linter.unusedSimpArgs false
namespace Go.Proofs.YtgcnggefeapalaaGreatDoor
open Go Go.Fw
set_option maxRecDepth 100000
def isP (n : List UInt8) (v : Ver) (p : Pck) : Bool := p.n == n && decide (p.v = v)
def findF (c : List Pck) (n : List UInt8) (v : Ver) : Int := idx (isP n v) c
def catFrom (all : List Pck) : Nat → List Pck → Int
  | _, [] => 0
  | i, x :: xs => if packF x ≠ 0 then packF x else if 0 ≤ findF (all.take i) x.n x.v then 6 else catFrom all (i + 1) xs
theorem catFrom_at {cs : List Pck} {i : Nat} {c : Pck} (h : cs[i]? = some c) : catFrom cs i (cs.drop i) = if packF c ≠ 0 then packF c else if 0 ≤ findF (cs.take i) c.n c.v then 6 else catFrom cs (i + 1) (cs.drop (i + 1)) := by
  obtain ⟨h1, h2⟩ := List.getElem?_eq_some_iff.1 h
  conv => lhs; rw [List.drop_eq_getElem_cons h1, h2, catFrom]
def catF (c : List Pck) : Int := if 24 < c.length then 2 else catFrom c 0 c
theorem subI {Ω : Opq} (hΩ : Ω = std) {i : Nat} (h0 : 0 < i) (h : i ≤ 4611686018427387904) : 0 ≤ Ω.ar .sub .i64 (Ω.int i) 1 ∧ (Ω.ar .sub .i64 (Ω.int i) 1).toNat = i - 1 := by
  subst hΩ
  show 0 ≤ IntKind.i64.wrap ((i : Int) - 1) ∧ (IntKind.i64.wrap ((i : Int) - 1)).toNat = i - 1
  rw [wrap64 (by omega) (by omega)]
  omega
def encP (c : List Pck) : A := .sl false 8 (c.map (Pck.enc false))
theorem c_find1 (o : Pck) (n : List UInt8) (v : Ver) : PCtr PP n_impl_find_1 [o.enc false, .rp [str n], .rp v.cells] (boo (isP n v o)) := by
  obtain ⟨Ω, hΩ⟩ : ∃ Ω, Ω = std := ⟨_, rfl⟩
  obtain ⟨r, hr⟩ : ∃ r, r = isP n v o := ⟨_, rfl⟩
  rw [← hr]
  obtain ⟨ps, ds, bs, hen, hps, hds, hbs⟩ := enc_raw o
  rw [hen]
  unfold isP at hr
  obtain ⟨D, hD⟩ : ∃ x, decide (o.v = v) = x := ⟨_, rfl⟩
  rw [hD] at hr
  have htab := tab
  have hmo := hmo
  have hve := verEq
  refine PCtr.walk tab hΩ fn_impl_find_1 rfl ?_
  generalize PP = P at *
  cbv
  refine br (fun g => ?_) (fun g => ?_) <;> cbv
  · refine eqX_eql hve o.v v ?_
    rw [hD]
    cbv
    exact .of (congrArg boo (by rw [hr, show (o.n == n) = true by subst hΩ; exact g, Bool.true_and]; subst hΩ; rfl))
  · exact .of (congrArg boo (by rw [hr, show (o.n == n) = false by subst hΩ; exact g, Bool.false_and]))
theorem c_find (l : List Pck) (n : List UInt8) (v : Ver) (hl : l.length ≤ 1048576) : PCtr PP n_impl_find [encP l, str n, v.enc] (i64 (findF l n v)) := by
  obtain ⟨Ω, hΩ⟩ : ∃ Ω, Ω = std := ⟨_, rfl⟩
  obtain ⟨r, hr⟩ : ∃ r, r = findF l n v := ⟨_, rfl⟩
  rw [← hr]
  have hc := c_IndexFuncP l (by omega) n_impl_find_1 [.rp [str n], .rp v.cells] (isP n v) ⟨fun _ _ => rfl, rfl, fun _ => rfl, fun o _ => c_find1 o n v⟩
  unfold encP
  rw [show idx (isP n v) l = r from hr.symm] at hc
  generalize l.map (Pck.enc false) = xs at *
  have htab := tab
  have hmo := hmo
  have hve := verEq
  refine PCtr.walk tab hΩ fn_impl_find rfl ?_
  generalize PP = P at *
  cbv
  refine call_pure hΩ 5 hc (ro_clo2 rfl rfl) (fits _) rfl rfl ?_
  cbv
  exact .same
theorem c_l2Find (l : List Pck) (n : List UInt8) (v : Ver) (hl : l.length ≤ 1048576) : PCtr PP n_spec_l2Find [encP l, str n, v.enc] (i64 (findF l n v)) := by
  obtain ⟨Ω, hΩ⟩ : ∃ Ω, Ω = std := ⟨_, rfl⟩
  obtain ⟨r, hr⟩ : ∃ r, r = findF l n v := ⟨_, rfl⟩
  rw [← hr]
  obtain ⟨xs, hxs⟩ : ∃ xs, xs = l.map (Pck.enc false) := ⟨_, rfl⟩
  have hlen : xs.length = l.length := by rw [hxs, List.length_map]
  unfold encP
  rw [← hxs]
  have hcv := c_CompareVersions
  have htab := tab
  have hmo := hmo
  have hve := verEq
  refine PCtr.walk tab hΩ fn_spec_l2Find rfl ?_
  generalize PP = P at *
  cbv
  refine loopX htab hΩ (fun i : Nat => ⟨[(0, .sl false 8 xs), (1, .sc (.string (mkS n))), (5, .pt 0 0 0), (7, .sc (.int .i64 (Ω.int i)))], 32, [some ⟨3, [v.enc], true⟩]⟩) (fun i => i ≤ l.length ∧ r = idxFrom (isP n v) i (l.drop i)) (fun i => l.length - i) 0
    ⟨Nat.zero_le _, hr⟩ (Sbs.mk rfl rfl ⟨rfl, rfl, rfl, zeroI hΩ, trivial⟩) ?_
  rintro i ⟨hi, he⟩
  cbv
  refine br (fun h => ?_) (fun h => ?_) <;> cbv
  · replace h := ltI hΩ h
    obtain ⟨c, hcc⟩ := at_of (cs := l) (by omega : i < l.length)
    rw [idxFrom_at _ hcc] at he
    refine ⟨VC_drawn htab hΩ hmo (by kernel_rfl) ?_⟩
    cbv
    obtain ⟨ps, ds, bs, hen, hps, hds, hbs⟩ := enc_raw c
    refine ⟨⟨nnI hΩ⟩, _, (rdI hΩ hxs hcc).trans (congrArg some hen), ?_⟩
    cbv
    refine br (fun g => ?_) (fun g => ?_) <;> cbv
    · have g : (c.n == n) = true := by subst hΩ; exact g
      refine ⟨⟨nnI hΩ⟩, _, (rdI hΩ hxs hcc).trans (congrArg some hen), ?_⟩
      cbv
      have hcv := hcv c.v v
      have hp : isP n v c = decide (cmpV c.v v = 0) := by rw [isP, g, Bool.true_and]; congr 1; rw [cmpV_zero]
      generalize cmpV c.v v = k at *
      rw [hp] at he
      refine QCall_pure (k := 3) hcv rfl (fits _) rfl ?_
      cbv
      refine br (fun g2 => ?_) (fun g2 => ?_) <;> cbv
      · exact .of (congrArg i64 (by rw [he, if_pos (by subst hΩ; have := eq_t g2; simp [this])]; subst hΩ; rfl))
      · rw [if_neg (by subst hΩ; have := eq_f g2; simp [this])] at he
        exact ⟨i + 1, ⟨by omega, he⟩, by omega, Sbs.mk rfl rfl ⟨rfl, rfl, rfl, incI hΩ (by omega), trivial⟩⟩
    · have g : (c.n == n) = false := by subst hΩ; exact g
      rw [if_neg (by rw [isP, g]; simp)] at he
      exact ⟨i + 1, ⟨by omega, he⟩, by omega, Sbs.mk rfl rfl ⟨rfl, rfl, rfl, incI hΩ (by omega), trivial⟩⟩
  · replace h := geI hΩ h
    exact .of (congrArg i64 (by rw [he, List.drop_of_length_le (by omega)]; rfl))
theorem c_implCatalogFault (l : List Pck) (hl : l.length ≤ 1048576) (hs : ∀ o ∈ l, o.Small) : PCtr PP n_impl_CatalogFault [encP l] (i64 (catF l)) := by
  obtain ⟨Ω, hΩ⟩ : ∃ Ω, Ω = std := ⟨_, rfl⟩
  obtain ⟨r, hr⟩ : ∃ r, r = catF l := ⟨_, rfl⟩
  rw [← hr]
  have hpk : ∀ o ∈ l, PCtr PP n_impl_PackFault [o.enc false] (i64 (packF o)) := fun o ho => c_implPackFault o (hs o ho)
  have hfi := fun (i : Nat) n v => c_find (l.take i) n v (by simp; omega)
  unfold encP at hfi
  obtain ⟨xs, hxs⟩ : ∃ xs, xs = l.map (Pck.enc false) := ⟨_, rfl⟩
  have hlen : xs.length = l.length := by rw [hxs, List.length_map]
  unfold encP
  rw [← hxs]
  rw [show (∀ (i : Nat) n v, PCtr PP n_impl_find [.sl false 8 ((l.take i).map (Pck.enc false)), str n, Ver.enc v] (i64 (findF (l.take i) n v))) = (∀ (i : Nat) n v, PCtr PP n_impl_find [.sl false 8 (xs.take i), str n, Ver.enc v] (i64 (findF (l.take i) n v))) by simp only [List.map_take, ← hxs]] at hfi
  unfold catF at hr
  have htab := tab
  have hmo := hmo
  have hve := verEq
  refine PCtr.walk tab hΩ fn_impl_CatalogFault rfl ?_
  generalize PP = P at *
  cbv
  refine br (fun g => ?_) (fun g => ?_) <;> cbv
  · exact .of (congrArg i64 (by rw [hr, if_pos (by subst hΩ; have g : (24 : Int) < xs.length := gt_t g; omega)]))
  rw [if_neg (by subst hΩ; have g : (xs.length : Int) ≤ 24 := gt_f g; omega)] at hr
  refine loopX htab hΩ (fun i : Nat => ⟨[(0, .sl false 8 xs), (9, .sl false 8 xs), (10, .sc (.int .i64 (Ω.int (Ω.len xs)))), (11, .sc (.int .i64 (Ω.int i)))], 31, []⟩) (fun i => i ≤ l.length ∧ r = catFrom l i (l.drop i)) (fun i => l.length - i) 0
    ⟨Nat.zero_le _, hr⟩ (Sbs.mk rfl rfl ⟨rfl, rfl, rfl, zeroI hΩ, trivial⟩) ?_
  rintro i ⟨hi, he⟩
  cbv
  refine br (fun h => ?_) (fun h => ?_) <;> cbv
  · replace h := ltI hΩ h
    obtain ⟨c, hcc⟩ := at_of (cs := l) (by omega : i < l.length)
    rw [catFrom_at hcc] at he
    obtain ⟨ps, ds, bs, hen, hps, hds, hbs⟩ := enc_raw c
    refine ⟨⟨nnI hΩ⟩, _, (rdI hΩ hxs hcc).trans (congrArg some hen), ?_⟩
    cbv
    have hp := hpk c (List.mem_of_getElem? hcc)
    rw [hen] at hp
    generalize packF c = kc at *
    refine call_pure hΩ 3 hp rfl (fits _) rfl rfl ?_
    cbv
    refine br (fun g => ?_) (fun g => ?_) <;> cbv
    · exact .of (congrArg i64 (by rw [he, if_pos (neI_t hΩ g)]))
    rw [if_neg (by rw [neI_f hΩ g]; simp)] at he
    refine ⟨VC_drawn htab hΩ hmo (by kernel_rfl) ?_⟩
    cbv
    refine ⟨⟨trivial, nnI hΩ, Nat.zero_le _, by subst hΩ; show i ≤ xs.length; omega⟩, ?_⟩
    have hf : PCtr P n_impl_find [.sl false 8 (Ω.seg 0 (Ω.nat (Ω.int i)) xs), str c.n, c.v.enc] (i64 (findF (l.take i) c.n c.v)) := by subst hΩ; exact hfi i c.n c.v
    generalize findF (l.take i) c.n c.v = kf at *
    refine QCall_pure (k := 3) hf rfl (fits _) rfl ?_
    cbv
    refine br (fun g2 => ?_) (fun g2 => ?_) <;> cbv
    · exact .of (congrArg i64 (by rw [he, if_pos (geI_t hΩ g2)]))
    · rw [if_neg (Int.not_le.2 (geI_f hΩ g2))] at he
      exact ⟨i + 1, ⟨by omega, he⟩, by omega, Sbs.mkL (rows := []) rfl rfl rfl ⟨rfl, rfl, rfl, incI hΩ (by omega), trivial⟩⟩
  · replace h := geI hΩ h
    exact .of (congrArg i64 (by rw [he, List.drop_of_length_le (by omega)]; rfl))
theorem c_specCatalogFault (l : List Pck) (hl : l.length ≤ 1048576) (hs : ∀ o ∈ l, o.Small) : PCtr PP n_spec_CatalogFault [encP l] (i64 (catF l)) := by
  obtain ⟨Ω, hΩ⟩ : ∃ Ω, Ω = std := ⟨_, rfl⟩
  obtain ⟨r, hr⟩ : ∃ r, r = catF l := ⟨_, rfl⟩
  rw [← hr]
  have hpk : ∀ o ∈ l, PCtr PP n_spec_PackFault [o.enc false] (i64 (packF o)) := fun o ho => c_specPackFault o (hs o ho)
  have hfi := fun (i : Nat) n v => c_l2Find (l.take i) n v (by simp; omega)
  unfold encP at hfi
  obtain ⟨xs, hxs⟩ : ∃ xs, xs = l.map (Pck.enc false) := ⟨_, rfl⟩
  have hlen : xs.length = l.length := by rw [hxs, List.length_map]
  unfold encP
  rw [← hxs]
  rw [show (∀ (i : Nat) n v, PCtr PP n_spec_l2Find [.sl false 8 ((l.take i).map (Pck.enc false)), str n, Ver.enc v] (i64 (findF (l.take i) n v))) = (∀ (i : Nat) n v, PCtr PP n_spec_l2Find [.sl false 8 (xs.take i), str n, Ver.enc v] (i64 (findF (l.take i) n v))) by simp only [List.map_take, ← hxs]] at hfi
  unfold catF at hr
  have htab := tab
  have hmo := hmo
  have hve := verEq
  refine PCtr.walk tab hΩ fn_spec_CatalogFault rfl ?_
  generalize PP = P at *
  cbv
  refine br (fun g => ?_) (fun g => ?_) <;> cbv
  · exact .of (congrArg i64 (by rw [hr, if_pos (by subst hΩ; have g : (24 : Int) < xs.length := gt_t g; omega)]))
  rw [if_neg (by subst hΩ; have g : (xs.length : Int) ≤ 24 := gt_f g; omega)] at hr
  refine loopX htab hΩ (fun i : Nat => ⟨[(0, .sl false 8 xs), (3, .sc (.int .i64 (Ω.int i)))], 37, []⟩) (fun i => i ≤ l.length ∧ r = catFrom l i (l.drop i)) (fun i => l.length - i) 0
    ⟨Nat.zero_le _, hr⟩ (Sbs.mk rfl rfl ⟨rfl, zeroI hΩ, trivial⟩) ?_
  rintro i ⟨hi, he⟩
  cbv
  refine br (fun h => ?_) (fun h => ?_) <;> cbv
  · replace h := ltI hΩ h
    obtain ⟨c, hcc⟩ := at_of (cs := l) (by omega : i < l.length)
    rw [catFrom_at hcc] at he
    obtain ⟨ps, ds, bs, hen, hps, hds, hbs⟩ := enc_raw c
    refine ⟨⟨nnI hΩ⟩, _, (rdI hΩ hxs hcc).trans (congrArg some hen), ?_⟩
    cbv
    have hp := hpk c (List.mem_of_getElem? hcc)
    rw [hen] at hp
    generalize packF c = kc at *
    refine call_pure hΩ 3 hp rfl (fits _) rfl rfl ?_
    cbv
    refine br (fun g => ?_) (fun g => ?_) <;> cbv
    · exact .of (congrArg i64 (by rw [he, if_pos (neI_t hΩ g)]))
    rw [if_neg (by rw [neI_f hΩ g]; simp)] at he
    refine ⟨VC_drawn htab hΩ hmo (by kernel_rfl) ?_⟩
    cbv
    refine ⟨⟨trivial, nnI hΩ, Nat.zero_le _, by subst hΩ; show i ≤ xs.length; omega⟩, ?_⟩
    have hf : PCtr P n_spec_l2Find [.sl false 8 (Ω.seg 0 (Ω.nat (Ω.int i)) xs), str c.n, c.v.enc] (i64 (findF (l.take i) c.n c.v)) := by subst hΩ; exact hfi i c.n c.v
    generalize findF (l.take i) c.n c.v = kf at *
    refine ⟨⟨nnI hΩ⟩, _, (rdI hΩ hxs hcc).trans (congrArg some hen), ?_⟩
    cbv
    refine ⟨⟨nnI hΩ⟩, _, (rdI hΩ hxs hcc).trans (congrArg some hen), ?_⟩
    cbv
    refine QCall_pure (k := 3) hf rfl (fits _) rfl ?_
    cbv
    refine br (fun g2 => ?_) (fun g2 => ?_) <;> cbv
    · exact .of (congrArg i64 (by rw [he, if_pos (geI_t hΩ g2)]))
    · rw [if_neg (Int.not_le.2 (geI_f hΩ g2))] at he
      exact ⟨i + 1, ⟨by omega, he⟩, by omega, Sbs.mk rfl rfl ⟨rfl, incI hΩ (by omega), trivial⟩⟩
  · replace h := geI hΩ h
    exact .of (congrArg i64 (by rw [he, List.drop_of_length_le (by omega)]; rfl))
end Go.Proofs.YtgcnggefeapalaaGreatDoor

/- Walks: sets by a function value; who is barred. Plain theorems. -/
set_option linter.unusedVariables false
set_option linter.unusedSimpArgs false
namespace Go.Proofs.YtgcnggefeapalaaGreatDoor
open Go Go.Fw
set_option maxRecDepth 100000
def ints (l : List Int) : A := .sl true 1 (l.map i64)
theorem frzInt (l : List Int) : (l.map i64).map frz = l.map i64 := by
  rw [List.map_map]; exact List.map_congr_left fun c _ => rfl
theorem noInt (l : List Int) : (∀ y ∈ l.map i64, noOwn y = true) ∧ (∀ c ∈ flat (l.map i64), okCell c = true) ∧ (∀ y ∈ l.map i64, isAggB y = false) ∧ (∀ y ∈ l.map i64, vStore.isAggA y = false) := by
  refine ⟨fun y hy => ?_, fun y hy => ?_, fun y hy => ?_, fun y hy => ?_⟩
  · obtain ⟨c, _, rfl⟩ := List.mem_map.1 hy; rfl
  · obtain ⟨x, hx, hy⟩ := List.mem_flatMap.1 hy
    obtain ⟨c, _, rfl⟩ := List.mem_map.1 hx
    have : y = i64 c := by simpa [i64, A.cells] using hy
    rw [this]; rfl
  · obtain ⟨c, _, rfl⟩ := List.mem_map.1 hy; rfl
  · obtain ⟨c, _, rfl⟩ := List.mem_map.1 hy; rfl
theorem roFInt (l : List Int) : roFree (.sl true 1 (l.map i64)) = true := by
  rw [roFree_sl, Bool.true_and, List.all_eq_true]
  intro x hx
  obtain ⟨c, _, rfl⟩ := List.mem_map.1 hx
  rfl
theorem idx_spec (p : Int → Bool) : ∀ (l : List Int) (i : Nat), (idxFrom p i l = -1 ∧ (l.filter fun x => !p x) = l) ∨ ∃ m, idxFrom p i l = ((i + m : Nat) : Int) ∧ m < l.length ∧ ((l.take (m + 1)).filter fun x => !p x) = l.take m
  | [], i => .inl ⟨rfl, rfl⟩
  | x :: xs, i => by
    rw [idxFrom]
    by_cases h : p x = true
    · right
      refine ⟨0, by rw [if_pos h]; simp, by simp, by simp [h]⟩
    · rw [if_neg h]
      rcases idx_spec p xs (i + 1) with ⟨h1, h2⟩ | ⟨m, h1, h2, h3⟩
      · left
        refine ⟨h1, ?_⟩
        rw [List.filter_cons_of_pos (by simpa using h), h2]
      · right
        refine ⟨m + 1, by rw [h1]; congr 1; omega, by simp; omega, ?_⟩
        rw [List.take_succ_cons, List.filter_cons_of_pos (by simpa using h), h3, List.take_succ_cons]
theorem filter_at {p : Int → Bool} {s : List Int} {j : Nat} {c : Int} (h : s[j]? = some c) : ((s.take (j + 1)).filter fun x => !p x) = ((s.take j).filter fun x => !p x) ++ (if p c then [] else [c]) := by
  rw [List.take_add_one, h, List.filter_append]
  congr 1
  by_cases hc : p c <;> simp [hc]
theorem take_set_add {ys : List A} {i : Nat} {z : A} (h : i < ys.length) : (ys.set i z).take (i + 1) = ys.take i ++ [z] := by
  rw [List.take_add_one, List.getElem?_set_self h, List.take_set_of_le (Nat.le_refl _)]; rfl
theorem c_Clone (s : List Int) (hs : s.length ≤ 1048576) : PCtr PP n_slices_Clone_L_int64_int64 [.sl false 1 (s.map i64)] (ints s) := by
  obtain ⟨Ω, hΩ⟩ : ∃ Ω, Ω = std := ⟨_, rfl⟩
  unfold ints
  obtain ⟨xs, hxs⟩ : ∃ xs, xs = s.map i64 := ⟨_, rfl⟩
  have hlen : xs.length = s.length := by rw [hxs, List.length_map]
  have hno := noInt s
  have hfz := frzInt s
  rw [← hxs] at hno hfz ⊢
  have htab := tab
  refine PCtr.walk tab hΩ fn_slices_Clone_L_int64_int64 rfl ?_
  generalize PP = P at *
  cbv
  intro b hb
  refine br (fun g => ?_) (fun g => ?_) <;> cbv
  · exact ⟨1, hb g⟩
  refine ⟨⟨hno.1, hno.2.1, ?_, ?_⟩, ⟨rfl, ?_⟩, .of ?_⟩
  · show (0 + xs.length) * 8 ≤ 140737488355328
    omega
  · show 0 + xs.length ≤ 9223372036854775807
    omega
  · subst hΩ; show 0 + xs.length ≤ (List.take 0 [] ++ xs).length; simp
  · subst hΩ; show A.sl true 1 ((List.take 0 [] ++ xs).take (0 + xs.length)) = _; rw [List.take_of_length_le (by simp)]; rfl
theorem c_DeleteFunc (s : List Int) (hs : s.length ≤ 1048576) (g : Nat) (caps : List A) (p : Int → Bool) (hf : CloB PP i64 s g caps p) : ECtr PP n_slices_DeleteFunc_L_int64_int64 [.sl true 1 (s.map i64), .clo g caps] (ints (s.filter fun x => !p x)) := by
  obtain ⟨Ω, hΩ⟩ : ∃ Ω, Ω = std := ⟨_, rfl⟩
  unfold ints
  have hc := c_IndexFuncI s (by omega) g caps p hf
  have hro := hf.ro
  have hcn := hf.no
  have hrun : ∀ x ∈ s, PCtr PP (Ω.cloN g) (Ω.cloA g [i64 x] caps) (boo (p x)) := by subst hΩ; exact hf.run
  obtain ⟨k, hk⟩ : ∃ k, idx p s = k := ⟨_, rfl⟩
  rw [hk] at hc
  obtain ⟨xs, hxs⟩ : ∃ xs, xs = s.map i64 := ⟨_, rfl⟩
  have hlen : xs.length = s.length := by rw [hxs, List.length_map]
  have hno := noInt s
  have hfz := frzInt s
  rw [← hxs] at hno hfz hc ⊢
  have hle : Ω.len xs = xs.length := by subst hΩ; rfl
  obtain ⟨zs, hzs⟩ : ∃ zs, zs = (s.filter fun x => !p x).map i64 := ⟨_, rfl⟩
  rw [← hzs]
  have htab := tab
  refine ECtr.walk tab hΩ 3 fn_slices_DeleteFunc_L_int64_int64 rfl (by simp only [rootO, rootO.rootOL, List.all_cons, List.all_nil, noOwn_vw, noOwn_clo, hcn]; rfl) ?_
  generalize PP = P at *
  cbv
  refine call_pure hΩ 5 hc (ro_clo2 (roV rfl hle hfz) (hro _ 0)) (fits _) rfl rfl ?_
  cbv
  refine br (fun g1 => ?_) (fun g1 => ?_) <;> cbv
  · have g1 : k = -1 := eqI_t hΩ g1
    rcases idx_spec p s 0 with ⟨h1, h2⟩ | ⟨m, h1, _⟩
    · refine ⟨⟨rfl, by subst hΩ; exact Nat.le_refl _⟩, .of ?_⟩
      rw [hzs, h2, ← hxs]
      subst hΩ
      show A.sl true 1 (xs.take xs.length) = _
      rw [List.take_length]
    · have : k = ((0 + m : Nat) : Int) := by rw [← hk]; exact h1
      omega
  have g1 : k ≠ -1 := eqI_f hΩ g1
  obtain ⟨m, hkm, hml, hfm⟩ : ∃ m : Nat, k = Ω.int m ∧ m < s.length ∧ ((s.take (m + 1)).filter fun x => !p x) = s.take m := by
    rcases idx_spec p s 0 with ⟨h1, _⟩ | ⟨m, h1, h2, h3⟩
    · exact absurd (hk.symm.trans h1) g1
    · rw [Nat.zero_add] at h1
      exact ⟨m, by subst hΩ; exact hk.symm.trans h1, h2, h3⟩
  subst hkm
  obtain ⟨F, hF⟩ : ∃ F : Nat → List Int, F = fun j => (s.take j).filter fun x => !p x := ⟨_, rfl⟩
  have hFat : ∀ j c, s[j]? = some c → F (j + 1) = F j ++ (if p c then [] else [c]) := fun j c h => by rw [hF]; exact filter_at h
  have hFm : F (m + 1) = s.take m := by rw [hF]; exact hfm
  have hFml : (F (m + 1)).length = m := by rw [hFm]; simp; omega
  have hFn : F s.length = s.filter fun x => !p x := by rw [hF]; simp only; rw [List.take_length]
  refine loopX htab hΩ (fun i : Nat × List A => ⟨[(0, .vw 0 0 (Ω.len xs)), (1, .clo g caps), (5, .sc (.int .i64 (Ω.int (F i.1).length))), (6, .sc (.int .i64 (Ω.int i.1)))], 42, [some ⟨1, i.2, false⟩]⟩)
    (fun i => (F i.1).length < i.1 ∧ i.1 ≤ s.length ∧ i.2.length = s.length ∧ i.2.take (F i.1).length = (F i.1).map i64 ∧ (∀ q, i.1 ≤ q → i.2[q]? = xs[q]?) ∧ (∀ y ∈ i.2, isAggB y = false) ∧ (∀ y ∈ i.2, vStore.isAggA y = false))
    (fun i => s.length - i.1) (m + 1, xs) ⟨by dsimp only; omega, by dsimp only; omega, hlen, ?_, fun _ _ => rfl, hno.2.2.1, hno.2.2.2⟩ (Sbs.mk rfl rfl ⟨rfl, rfl, by rw [hFml]; rfl, incI hΩ (by omega), trivial⟩) ?_
  · dsimp only
    rw [hFml, hFm, hxs, List.map_take]
  rintro ⟨j, ys⟩ ⟨h1, h2, h3, h4, h5, h6, h7⟩
  dsimp only at h1 h2 h3 h4 h5 h6 h7
  obtain ⟨f, hf2⟩ : ∃ f, f = (F j).length := ⟨_, rfl⟩
  rw [← hf2] at h1 h4
  dsimp only
  rw [← hf2]
  cbv
  refine br (fun h => ?_) (fun h => ?_) <;> cbv
  · replace h := ltI hΩ h
    obtain ⟨c, hcc⟩ := at_of (cs := s) (by omega : j < s.length)
    have hyj : ys[j]? = some (i64 c) := by rw [h5 j (Nat.le_refl _), hxs, List.getElem?_map, hcc]; rfl
    have hFj := hFat j c hcc
    have hr1 := hrun c (List.mem_of_getElem? hcc)
    refine ⟨⟨ixI hΩ (by show j < Ω.len xs; rw [hle]; exact h)⟩, i64 c, atI hΩ hyj, ?_⟩
    cbv
    refine call_pure hΩ 4 hr1 (ro_cloA hΩ rfl (hro _ 0)) (fits _) rfl rfl ?_
    cbv
    refine br (fun g => ?_) (fun g => ?_) <;> cbv
    · have g := notT' hΩ g
      rw [g] at hFj
      have hFl : (F (j + 1)).length = f + 1 := by rw [hFj, hf2]; simp
      have hfl : f < ys.length := by omega
      refine ⟨⟨ixI hΩ (by show f < Ω.len xs; rw [hle]; omega)⟩, ⟨by subst hΩ; show 0 + f < ys.length; omega, h7⟩, ?_⟩
      refine ⟨(j + 1, ys.set f (i64 c)), ⟨by dsimp only; omega, by dsimp only; omega, by simpa using h3, ?_, fun q hq => ?_, fun y hy => ?_, fun y hy => ?_⟩, by dsimp only; omega, Sbs.mk rfl ?_ ⟨rfl, rfl, ?_, incI hΩ (by omega), trivial⟩⟩
      · dsimp only; rw [hFl, take_set_add hfl, h4, hFj, List.map_append]; rfl
      · dsimp only at hq ⊢; rw [List.getElem?_set_ne (by omega)]; exact h5 q (by omega)
      · rcases List.mem_or_eq_of_mem_set hy with hy | rfl
        · exact h6 y hy
        · rfl
      · rcases List.mem_or_eq_of_mem_set hy with hy | rfl
        · exact h7 y hy
        · rfl
      · subst hΩ; show [some (Row.mk 1 (ys.set (0 + f) (i64 c)) false)] = _; rw [Nat.zero_add]
      · dsimp only; rw [hFl]; exact incI hΩ (by omega)
    · have g : p c = true := notF' hΩ g
      rw [g] at hFj
      have hFl : (F (j + 1)).length = f := by rw [hFj, hf2]; simp
      exact ⟨(j + 1, ys), ⟨by dsimp only; omega, by dsimp only; omega, h3, by dsimp only; rw [hFl, h4, hFj]; simp, fun q hq => h5 q (by dsimp only at hq; omega), h6, h7⟩, by dsimp only; omega, Sbs.mk rfl rfl ⟨rfl, rfl, by dsimp only; rw [hFl]; rfl, incI hΩ (by omega), trivial⟩⟩
  · have hj : j = s.length := by have := geI hΩ h; omega
    subst hj
    refine ⟨⟨nnI hΩ, trivial, ?_, Nat.le_refl _⟩, ⟨?_, h6⟩, ⟨trivial, nnI hΩ, Nat.zero_le _, ?_⟩, ⟨?_, ?_⟩, .of ?_⟩
    · subst hΩ; show f ≤ xs.length; omega
    · subst hΩ; show 0 + f + (xs.length - f) = ys.length; omega
    · subst hΩ; show f ≤ xs.length; omega
    · subst hΩ; rfl
    · subst hΩ; show f - 0 ≤ (ys.take (0 + f) ++ List.replicate (xs.length - f) (A.sc (Value.int IntKind.i64 0))).length; simp; omega
    · subst hΩ
      show A.sl true 1 ((ys.take (0 + f) ++ List.replicate (xs.length - f) (A.sc (Value.int IntKind.i64 0))).take (f - 0)) = _
      rw [Nat.zero_add, Nat.sub_zero, List.take_append_of_le_length (by simp; omega), List.take_take, Nat.min_self, h4, hzs, hFn]
theorem c_those1 (g : Nat) (caps : List A) (b : Bool) (k : Int) (hro : ∀ S k, mapO (roO S (k + 4)) caps = some caps) (hf : PCtr PP (Fw.cloN g) (Fw.cloA g [i64 k] caps) (boo b)) : PCtr PP n_impl_those_1 [i64 k, .rp [.clo g caps]] (boo (!b)) := by
  obtain ⟨Ω, hΩ⟩ : ∃ Ω, Ω = std := ⟨_, rfl⟩
  have hrun : PCtr PP (Ω.cloN g) (Ω.cloA g [i64 k] caps) (boo b) := by subst hΩ; exact hf
  have htab := tab
  refine PCtr.walk tab hΩ fn_impl_those_1 rfl ?_
  generalize PP = P at *
  cbv
  refine call_pure hΩ 4 hrun (ro_cloA hΩ rfl (hro _ 0)) (fits _) rfl rfl ?_
  cbv
  exact .of (congrArg boo (by subst hΩ; rfl))
theorem c_those (s : List Int) (hs : s.length ≤ 1048576) (g : Nat) (caps : List A) (p : Int → Bool) (hf : CloB PP i64 s g caps p) : PCtr PP n_impl_those [.sl false 1 (s.map i64), .clo g caps] (ints (s.filter p)) := by
  obtain ⟨Ω, hΩ⟩ : ∃ Ω, Ω = std := ⟨_, rfl⟩
  have hcl := c_Clone s hs
  have hd := c_DeleteFunc s hs n_impl_those_1 [.rp [.clo g caps]] (fun x => !p x) ⟨fun S k => by rfl, rfl, fun _ => rfl, fun x hx => c_those1 g caps (p x) x hf.ro (hf.run x hx)⟩
  have hro := hf.ro
  have hcn := hf.no
  have hkl := hf.kl
  have hroF := roFInt s
  have hroZ := roFInt (s.filter p)
  rw [show (s.filter fun x => !!p x) = s.filter p by congr 1; funext x; simp] at hd
  unfold ints at hcl hd ⊢
  generalize s.map i64 = xs at *
  generalize (s.filter p).map i64 = zs at *
  have htab := tab
  refine PCtr.walk tab hΩ fn_impl_those rfl ?_
  generalize PP = P at *
  cbv
  refine call_pure hΩ 3 hcl rfl (fits _) hroF rfl ?_
  cbv
  refine call_eat2 (row := ⟨1, xs, false⟩) hΩ 8 hd rfl rfl (by subst hΩ; rfl) (ro_clo1 (mapOne (roPt (x := .clo g caps) (by show some (Row.mk 1 [A.clo g (killL 1 caps)] true) = _; rw [hkl]) (ro_clo1 (hro _ 1))))) (fits _) hroZ rfl ?_
  cbv
  refine ⟨⟨rfl, by subst hΩ; exact Nat.le_refl _⟩, .of ?_⟩
  subst hΩ
  show A.sl true 1 (zs.take zs.length) = _
  rw [List.take_length]
end Go.Proofs.YtgcnggefeapalaaGreatDoor

/- Sets with a code. Plain theorems. -/
set_option linter.unusedVariables false
set_option linter.unusedSimpArgs false
namespace Go.Proofs.YtgcnggefeapalaaGreatDoor
open Go Go.Fw
set_option maxRecDepth 100000
def Pck.zero : Pck := ⟨[], Ver.zero, 0, [], [], []⟩
def pk (c : List Pck) (k : Int) : Pck := c.getD k.toNat Pck.zero
/-- A set with a code. -/
def setR (k a : Int) (s : List Int) : A := .agg [i64 k, i64 a, .sl true 1 (s.map i64)]
theorem pk_at {c : List Pck} {k : Int} (h : inB k 0 ((c.length : Int) - 1) = true) : 0 ≤ k ∧ k.toNat < c.length ∧ c[k.toNat]? = some (pk c k) ∧ pk c k ∈ c := by
  unfold inB at h
  simp only [Bool.and_eq_true, decide_eq_true_eq] at h
  have hk : k.toNat < c.length := by omega
  refine ⟨h.1, hk, ?_, ?_⟩
  · rw [pk, List.getD_eq_getElem?_getD, List.getElem?_eq_getElem hk]; rfl
  · rw [pk, List.getD_eq_getElem?_getD, List.getElem?_eq_getElem hk]; exact List.getElem_mem hk
end Go.Proofs.YtgcnggefeapalaaGreatDoor

/- Helpers of the walks. Plain theorems. -/
set_option linter.unusedVariables false
set_option linter.unusedSimpArgs false
namespace Go.Proofs.YtgcnggefeapalaaGreatDoor
open Go Go.Fw
set_option maxRecDepth 100000
def fill {α : Type} (f : α → A) (z : A) (cs : List α) (i : Nat) : List A := (cs.take i).map f ++ List.replicate (cs.length - i) z
theorem fill_set {α : Type} {f : α → A} {z : A} {cs : List α} {i : Nat} {c : α} (hc : cs[i]? = some c) : (fill f z cs i).set i (f c) = fill f z cs (i + 1) := by
  have hi : i < cs.length := (List.getElem?_eq_some_iff.1 hc).1
  unfold fill
  rw [List.take_add_one, hc, List.map_append, List.set_append]
  have e : cs.length - i = (cs.length - (i + 1)) + 1 := by omega
  simp [e, List.replicate_succ, Nat.min_eq_left (Nat.le_of_lt hi)]
theorem fill_length {α : Type} {f : α → A} {z : A} {cs : List α} {i : Nat} (hi : i ≤ cs.length) : (fill f z cs i).length = cs.length := by simp [fill]; omega
theorem fill_all {α : Type} {f : α → A} {z : A} {cs : List α} {i : Nat} {p : A → Prop} (h1 : ∀ c, p (f c)) (h2 : p z) : ∀ y ∈ fill f z cs i, p y := by
  intro y hy
  rcases List.mem_append.1 hy with hy | hy
  · obtain ⟨c, _, rfl⟩ := List.mem_map.1 hy; exact h1 c
  · rw [(List.mem_replicate.1 hy).2]; exact h2
theorem fill_zero {α : Type} {f : α → A} {z : A} {cs : List α} : fill f z cs 0 = List.replicate cs.length z := by simp [fill]
theorem fill_full {α : Type} {f : α → A} {z : A} {cs : List α} : fill f z cs cs.length = cs.map f := by simp [fill]
theorem takeAll {Ω : Opq} (hΩ : Ω = std) (xs : List A) : Ω.take (Ω.len xs) xs = xs := by subst hΩ; exact List.take_length
theorem roFAll {n : Nat} {xs : List A} (h : ∀ x ∈ xs, roFree x = true) : roFree (.sl true n xs) = true := by rw [roFree_sl, Bool.true_and, List.all_eq_true]; exact h
theorem roFTs (l : List Trm) : roFree (encTs true l) = true := roFAll fun x hx => by obtain ⟨c, _, rfl⟩ := List.mem_map.1 hx; rfl
theorem roFP (o : Pck) : roFree (o.enc true) = true := by
  show roFree (.agg _) = true
  rw [roFree_agg]
  have h1 : roFree (.sl true 1 (o.p.map str)) = true := roFAll fun x hx => by obtain ⟨c, _, rfl⟩ := List.mem_map.1 hx; rfl
  have h2 : roFree (.sl true 1 (o.d.map (encTs true))) = true := roFAll fun x hx => by obtain ⟨c, _, rfl⟩ := List.mem_map.1 hx; exact roFTs c
  have h3 : roFree (.sl true 7 (o.b.map Trm.enc)) = true := roFTs o.b
  simp only [Pck.cells, List.all_cons, List.all_nil, h1, h2, h3]
  rfl
theorem roFPs (l : List Pck) : roFree (.sl true 8 (l.map (Pck.enc true))) = true := roFAll fun x hx => by obtain ⟨c, _, rfl⟩ := List.mem_map.1 hx; exact roFP c
theorem enc_own (o : Pck) : ∃ ps ds bs, o.enc true = .agg [str o.n, i64 o.v.a, i64 o.v.b, i64 o.v.c, i64 o.s, .sl true 1 ps, .sl true 1 ds, .sl true 7 bs] ∧ ps = o.p.map str ∧ ds = o.d.map (encTs true) ∧ bs = o.b.map Trm.enc := ⟨_, _, _, rfl, rfl, rfl, rfl⟩
theorem fitsE {k : Nat} {a b : List A} (h : a = b) : fitA.fitL k a b := h ▸ fits a
def psum {α : Type} (f : α → Nat) (d : List α) (i : Nat) : Nat := ((d.take i).map f).sum
theorem psum_const {α : Type} (m : Nat) (d : List α) : psum (fun _ => m) d d.length = m * d.length := by
  unfold psum
  rw [List.take_length]
  induction d with
  | nil => rfl
  | cons x d ih => simp only [List.map_cons, List.sum_cons, List.length_cons, ih]; rw [Nat.mul_succ]; omega
theorem mutVw {S : State} {r len n : Nat} {ys zs : List A} (hr : Fw.rowAt S.rows r = some ⟨n, ys, false⟩) (hl : len = ys.length) (hl' : zs.length = ys.length) : Mut S (.vw r 0 len) (.sl true n ys) (.sl true n zs) [(r, zs)] := .row hr rfl hl hl'
theorem ro_vw {S : State} {k r len n : Nat} {ys zs : List A} (hr : Fw.rowAt S.rows r = some ⟨n, ys, false⟩) (hl : len = ys.length) (hf : ys.map frz = zs) : roO S (k + 1) (.vw r 0 len) = some (.sl false n zs) := by
  simp only [roO, hr]
  rw [hl, List.drop_zero, List.take_length, hf]
  rfl
theorem mapO1 {f : A → Option A} {x x' : A} (h : f x = some x') : mapO f [x] = some [x'] := by simp [mapO, h]
theorem mapO2 {f : A → Option A} {x x' y y' : A} (h : f x = some x') (h2 : f y = some y') : mapO f [x, y] = some [x', y'] := by simp [mapO, h, h2]
theorem frz_Pck (o : Pck) : frz (o.enc true) = o.enc false := by
  show frz (.agg _) = A.agg _
  rw [frz_agg]
  have h1 : (o.p.map str).map frz = o.p.map str := by rw [List.map_map]; exact List.map_congr_left fun c _ => rfl
  have h2 : (o.d.map (encTs true)).map frz = o.d.map (encTs false) := by
    rw [List.map_map]
    refine List.map_congr_left fun c _ => ?_
    show frz (A.sl true 7 _) = A.sl false 7 _
    rw [frz_sl, List.map_map]; rfl
  have h3 : (o.b.map Trm.enc).map frz = o.b.map Trm.enc := by rw [List.map_map]; exact List.map_congr_left fun c _ => rfl
  simp only [Pck.cells, List.map_cons, List.map_nil, frz_sl, h1, h2, h3]
  rfl
theorem frz_Pcks (l : List Pck) : (l.map (Pck.enc true)).map frz = l.map (Pck.enc false) := by rw [List.map_map]; exact List.map_congr_left fun c _ => frz_Pck c
theorem frz_I (l : List Int) : (l.map i64).map frz = l.map i64 := by rw [List.map_map]; exact List.map_congr_left fun c _ => rfl
theorem roF_I (l : List Int) : roFree (.sl true 1 (l.map i64)) = true := roFAll fun x hx => by obtain ⟨c, _, rfl⟩ := List.mem_map.1 hx; rfl
end Go.Proofs.YtgcnggefeapalaaGreatDoor

/- Branches told as facts on numbers. Plain theorems. -/
set_option linter.unusedVariables false
namespace Go.Proofs.YtgcnggefeapalaaGreatDoor
open Go Go.Fw
theorem iteA {Ω : Opq} (hΩ : Ω = std) {x y c : Bool} (h : Ω.ite true x y = c) : x = c := by subst hΩ; exact h
theorem iteB {Ω : Opq} (hΩ : Ω = std) {x y c : Bool} (h : Ω.ite false x y = c) : y = c := by subst hΩ; exact h
theorem notA {Ω : Opq} (hΩ : Ω = std) {x : Bool} (h : Ω.not x = true) : x = false := notT' hΩ h
theorem notB {Ω : Opq} (hΩ : Ω = std) {x : Bool} (h : Ω.not x = false) : x = true := notF' hΩ h
theorem ltZt {Ω : Opq} (hΩ : Ω = std) {x y : Int} (h : Ω.cmp .lss x y = true) : x < y := by subst hΩ; exact lt_t h
theorem ltZf {Ω : Opq} (hΩ : Ω = std) {x y : Int} (h : Ω.cmp .lss x y = false) : y ≤ x := by subst hΩ; exact lt_f h
theorem leZt {Ω : Opq} (hΩ : Ω = std) {x y : Int} (h : Ω.cmp .leq x y = true) : x ≤ y := by subst hΩ; exact le_t h
theorem leZf {Ω : Opq} (hΩ : Ω = std) {x y : Int} (h : Ω.cmp .leq x y = false) : y < x := by subst hΩ; exact le_f h
theorem gtZt {Ω : Opq} (hΩ : Ω = std) {x y : Int} (h : Ω.cmp .gtr x y = true) : y < x := by subst hΩ; exact gt_t h
theorem gtZf {Ω : Opq} (hΩ : Ω = std) {x y : Int} (h : Ω.cmp .gtr x y = false) : x ≤ y := by subst hΩ; exact gt_f h
theorem eqZt {Ω : Opq} (hΩ : Ω = std) {x y : Int} (h : Ω.cmp .eql x y = true) : x = y := by subst hΩ; exact eq_t h
theorem eqZf {Ω : Opq} (hΩ : Ω = std) {x y : Int} (h : Ω.cmp .eql x y = false) : x ≠ y := by subst hΩ; exact eq_f h
theorem neZt {Ω : Opq} (hΩ : Ω = std) {x y : Int} (h : Ω.cmp .neq x y = true) : x ≠ y := by subst hΩ; exact ne_t h
theorem neZf {Ω : Opq} (hΩ : Ω = std) {x y : Int} (h : Ω.cmp .neq x y = false) : x = y := by subst hΩ; exact ne_f h
theorem eqSt {Ω : Opq} (hΩ : Ω = std) {x y : List UInt8} (h : Ω.cmpS .eql x y = true) : x = y := by subst hΩ; exact of_decide_eq_true ((by simpa [cmpSS] using (show cmpSS .eql x y = true from h)))
theorem eqSf {Ω : Opq} (hΩ : Ω = std) {x y : List UInt8} (h : Ω.cmpS .eql x y = false) : x ≠ y := by subst hΩ; exact fun e => by subst e; have h : cmpSS .eql x x = false := h; simp [cmpSS] at h
end Go.Proofs.YtgcnggefeapalaaGreatDoor

/- Calls that are handed own data for good. Plain theorems, no condition. -/
import Derived.Test.YtdngjnjapihbkaaFw24
set_option linter.unusedVariables false
set_option linter.unusedSimpArgs false
namespace Go.Fw
/-- A contract of a function that is handed own data for good: what comes back may hold them. -/
structure ECtr (P : Program) (g : Nat) (args : List A) (x : A) : Prop where
  enter : Enter P g
  run : ∀ (w : World) (G : Nat → Prop) (vs : List Value) (F : List Nat), (∀ b, G b → b < w.heap.size) → F.Nodup → (∀ b ∈ F, ¬ G b) → RelL w G args vs F → Calls P g vs.toArray w (fun e w' => ∃ v Fx, e = .returned v ∧
    (w'.os = w.os ∧ w'.tape = w.tape ∧ w'.output = w.output ∧ w.heap.size ≤ w'.heap.size ∧ ∀ b, b < w.heap.size → b ∉ F → w'.heap[b]? = w.heap[b]?) ∧
    Fx.Nodup ∧ (∀ b ∈ Fx, b ∈ F ∨ w.heap.size ≤ b) ∧ Rel w' (fun b => (G b ∨ (w.heap.size ≤ b ∧ b < w'.heap.size)) ∧ b ∉ Fx) x v Fx)
def entryE (Ω : Opq) (k N : Nat) (xs : List A) : State := ⟨entryT 0 (rootO.rootOL Ω k ⟨[], N, []⟩ xs).1, N, (rootO.rootOL Ω k ⟨[], N, []⟩ xs).2.rows⟩
section
variable {P : Program} {T : Nat → Option TI} {S : State} {Ω : Opq}
theorem ECtr.walk (hT : TabOK P T) (hΩ : Ω = std) (k : Nat) {g : Nat} {c : Code} {N : Nat} {rs : List ResultVar} {xs : List A} {x : A} (hf : FnAt P g c N rs) (hN : Nat.ble xs.length N = true)
    (hno : (rootO.rootOL Ω k ⟨[], N, []⟩ xs).1.all noOwn = true) (h : vC Ω P T c (entryE Ω k N xs) (outV Ω T rs x)) : ECtr P g xs x := by
  subst hΩ
  have hroot := rootOL_std (rootO_std k)
  unfold entryE at h
  rw [hroot] at h hno
  have hN := Nat.le_of_ble_eq_true hN
  obtain ⟨hen, fn, h1, h2, h3, h4⟩ := hf
  refine ⟨hen, fun w G vs F hG hFnd hFG hl => ?_⟩
  have hlen := hl.length
  have hFlt := hl.lt
  refine calls_of_wp h1 h2 ?_
  generalize htm : vs.toArray ++ Array.replicate (fn.ntmps - vs.toArray.size) undef = tm
  have htms : tm.size = N := by rw [← htm]; simp; omega
  have hinv0 : Inv ⟨w, G, (· ∈ F), fun _ => undef⟩ G (fun _ => (none, [])) ⟨[], N, []⟩ tm w := by
    refine ⟨fun _ _ _ => rfl, rfl, rfl, rfl, Nat.le_refl _, htms, fun _ h => h, fun _ h => .inl h, hG, ?_, ?_, ?_, ?_, fun i => .un⟩
    · intro r row hr; simp [rowAt] at hr
    · intro r row hr; simp [rowAt] at hr
    · intro r row hr; simp [rowAt] at hr
    · intro r r' row row' hr; simp [rowAt] at hr
  have hres0 : Res ⟨w, G, (· ∈ F), fun _ => undef⟩ G (fun _ => (none, [])) (State.rows ⟨[], N, []⟩) (F ++ []) := by
    rw [List.append_nil]
    exact ⟨hFnd, fun b hb => ⟨hFG b hb, .inl hb⟩, fun r row hr => by simp [rowAt] at hr⟩
  obtain ⟨gs1, r1, r2⟩ := rootL_ok (rootA_ok k) xs ⟨[], N, []⟩ _ vs F [] hinv0 hres0 (fun b hb => hFlt b (by simpa using hb)) hl hno
  have hzl : (rootA.rootL k ⟨[], N, []⟩ xs).1.length = xs.length := by rw [← r2.length, hlen]
  have hi1 := r1.inv
  have hinv : Inv ⟨w, G, (· ∈ F), fun _ => undef⟩ G gs1 ⟨entryT 0 (rootA.rootL k ⟨[], N, []⟩ xs).1, N, (rootA.rootL k ⟨[], N, []⟩ xs).2.rows⟩ tm w := by
    refine ⟨hi1.keep, hi1.os, hi1.tape, hi1.output, hi1.size, htms, hi1.gsub, hi1.gnew, hi1.glt, hi1.row, hi1.nod, hi1.own, hi1.dis, fun i => ?_⟩
    show TRel w G (rootA.rootL k ⟨[], N, []⟩ xs).2.rows gs1 (lk (entryT 0 _) i) _ []
    rw [lk_entryT, if_pos (Nat.zero_le _), Nat.sub_zero]
    by_cases hi : i < xs.length
    · unfold vat
      rw [if_pos (by rw [htms]; omega)]
      have := r2.get' i (by rw [hzl]; exact hi)
      have e : tm.getD i undef = vs.getD i undef := by
        rw [← htm, Array.getD_eq_getD_getElem?, Array.getElem?_append_left (by simp; omega)]
        simp
      rw [e]; exact this
    · rw [List.getD_eq_getElem?_getD, List.getElem?_eq_none (by omega)]
      exact .un
  refine wp_mono ((VC.mono (vstart hT rfl h) fun e S' h => outV_ok hT h) ⟨w, G, (· ∈ F), fun _ => undef⟩ { tmps := tm, defers := [] } w ⟨rfl, G, _, hinv⟩) ?_
  rintro e a' w' ⟨S', ⟨hd, G', gs', hi'⟩, hK⟩
  have fin : Outs P rs x S' → a'.defers = [] ∧ ∃ v, (results fn a'.tmps).run P w' = .ok v w' ∧ (∃ v_1 Fx, Ending.returned v = .returned v_1 ∧
      (w'.os = w.os ∧ w'.tape = w.tape ∧ w'.output = w.output ∧ w.heap.size ≤ w'.heap.size ∧ ∀ b, b < w.heap.size → b ∉ F → w'.heap[b]? = w.heap[b]?) ∧
      Fx.Nodup ∧ (∀ b ∈ Fx, b ∈ F ∨ w.heap.size ≤ b) ∧ Rel w' (fun b => (G b ∨ (w.heap.size ≤ b ∧ b < w'.heap.size)) ∧ b ∉ Fx) x v_1 Fx) := by
    intro ho
    refine ⟨hd, ?_⟩
    obtain ⟨vs', zs, Fx, k', g1, g2, g3, g4, g5⟩ := ho _ _ _ _ _ hi'
    refine ⟨oneV vs', h4 _ _ _ g1, _, Fx, rfl, ⟨hi'.os, hi'.tape, hi'.output, hi'.size, fun b hb hF => hi'.keep b hb hF⟩, g3, fun b hb => (g4 b hb).2, ?_⟩
    refine (fitA_rel k' _ _ _ _ g5 (oneA_rel g2)).move_ (fun b hb => ⟨⟨?_, fun hF => (g4 b hF).1 hb⟩, rfl⟩) (fun _ _ => rfl)
    rcases hi'.gnew b hb with h | h
    · exact .inl h
    · exact .inr ⟨h, hi'.glt b hb⟩
  cases e with
  | normal => exact fin hK
  | ret => exact fin hK
  | _ => exact hK.elim
theorem eat_end {E : Env} {G : Nat → Prop} {gs : Gh} {S1 : State} {tmps : Array Value} {w w' : World} {F Fx : List Nat} {x : A} {v : Value} (k : Nat) (hi1 : Inv E G gs S1 tmps w) (hR : Res E G gs S1.rows F)
    (hos : w'.os = w.os) (htape : w'.tape = w.tape) (hout : w'.output = w.output) (hsize : w.heap.size ≤ w'.heap.size) (hold : ∀ b, b < w.heap.size → b ∉ F → w'.heap[b]? = w.heap[b]?)
    (hnd : Fx.Nodup) (hmem : ∀ b ∈ Fx, b ∈ F ∨ w.heap.size ≤ b) (hx : Rel w' (fun b => (G b ∨ (w.heap.size ≤ b ∧ b < w'.heap.size)) ∧ b ∉ Fx) x v Fx) (hno : noOwn (rootA k S1 x).1 = true) :
    ∃ gs2, Inv E (fun b => (G b ∨ (w.heap.size ≤ b ∧ b < w'.heap.size)) ∧ b ∉ Fx) gs2 (rootA k S1 x).2 tmps w' ∧ TRel w' (fun b => (G b ∨ (w.heap.size ≤ b ∧ b < w'.heap.size)) ∧ b ∉ Fx) (rootA k S1 x).2.rows gs2 (rootA k S1 x).1 v [] := by
  have hrow : ∀ r row, rowAt S1.rows r = some row → ∀ b ∈ gs.all r, w'.heap[b]? = w.heap[b]? ∧ b ∉ Fx := fun r row hr b hb => by
    have h1 := hi1.block_lt hr b hb
    have h2 := hR.dis r row hr b hb
    refine ⟨hold b h1 h2, fun hF => ?_⟩
    rcases hmem b hF with h | h
    · exact h2 h
    · omega
  have hGF : ∀ b, G b → b ∉ Fx := fun b h hF => by
    have := hi1.glt b h
    rcases hmem b hF with h2 | h2
    · exact (hR.own b h2).1 h
    · omega
  have hG : ∀ b, G b → ((G b ∨ (w.heap.size ≤ b ∧ b < w'.heap.size)) ∧ b ∉ Fx) ∧ w'.heap[b]? = w.heap[b]? := fun b h => ⟨⟨.inl h, hGF b h⟩, hold b (hi1.glt b h) fun hF => (hR.own b hF).1 h⟩
  have hle : ∀ r, RowLe w w' S1.rows S1.rows gs gs r := fun r => RowLe.refl_of fun row h => ⟨h, rfl, fun b hob => (hrow r row h b (by simp [Gh.all, hob])).1⟩
  have hi' : Inv E (fun b => (G b ∨ (w.heap.size ≤ b ∧ b < w'.heap.size)) ∧ b ∉ Fx) gs S1 tmps w' := by
    refine ⟨fun b h hf => ?_, hos.trans hi1.os, htape.trans hi1.tape, hout.trans hi1.output, Nat.le_trans hi1.size hsize, hi1.sz, fun b h => ⟨.inl (hi1.gsub b h), hGF b (hi1.gsub b h)⟩, fun b h => ?_, fun b h => ?_, fun r row hr => ?_,
      hi1.nod, fun r row hr b hb => ?_, hi1.dis, fun i => (hi1.tmp i).step hG hle (by simp)⟩
    · rw [hold b (Nat.lt_of_lt_of_le h hi1.size) fun hF => ?_]
      · exact hi1.keep b h hf
      · rcases (hR.own b hF).2 with h2 | h2
        · exact hf h2
        · omega
    · rcases h.1 with h | h
      · exact hi1.gnew b h
      · exact .inr (Nat.le_trans hi1.size h.1)
    · rcases h.1 with h | h
      · exact Nat.lt_of_lt_of_le (hi1.glt b h) hsize
      · exact h.2
    · exact (hi1.row r row hr).step hG hle fun c hc => (hrow r row hr c hc).1
    · obtain ⟨g1, g2⟩ := hi1.own r row hr b hb
      refine ⟨fun h => ?_, g2⟩
      have := hi1.block_lt hr b hb
      rcases h.1 with h | h
      · exact g1 h
      · omega
  have hR' : Res E (fun b => (G b ∨ (w.heap.size ≤ b ∧ b < w'.heap.size)) ∧ b ∉ Fx) gs S1.rows (Fx ++ []) := by
    rw [List.append_nil]
    refine ⟨hnd, fun b hb' => ⟨fun h => h.2 hb', ?_⟩, fun r row hr b hb1 hb2 => (hrow r row hr b hb1).2 hb2⟩
    rcases hmem b hb' with h2 | h2
    · exact (hR.own b h2).2
    · exact .inr (Nat.le_trans hi1.size h2)
  obtain ⟨gs2, q1, q2⟩ := rootA_ok k S1 gs x v Fx [] hi' hR' (fun b hb' => hx.lt b (by simpa using hb')) hx hno
  exact ⟨gs2, q1.inv, q2⟩
theorem CallOK_eat {g k j : Nat} {args ys : List A} {x : A} {K : A → State → Prop} (hc : ECtr P g ys x) (hst : (stashL S args).1) (hfit : fitA.fitL j (stashL S args).2.1 ys)
    (hno : noOwn (rootA k (stashL S args).2.2.1 x).1 = true) (hK : K (rootA k (stashL S args).2.2.1 x).1 (rootA k (stashL S args).2.2.1 x).2) : CallOK P g args S K := by
  refine ⟨hc.enter, fun E G gs tmps w vs hi hl => ?_⟩
  obtain ⟨F, hst', hrel⟩ := stashL_ok _ args S vs [] rfl hi Res.nil hl hst
  rw [List.append_nil] at hst'
  have hrel := fitL_rel (fun x y v F => fitA_rel j x y v F) _ _ _ _ hfit hrel
  have hi1 := hst'.inv
  have hR := hst'.res
  have hlt : ∀ b ∈ F, b < w.heap.size := hst'.lt (by simp)
  revert hno hK hi1 hR
  generalize (stashL S args).2.2.1 = S1
  intro hno hK hi1 hR
  refine Calls.mono (hc.run w G vs F hi1.glt hR.nod (fun b hb => (hR.own b hb).1) hrel) ?_
  rintro e w' ⟨v, Fx, rfl, ⟨hos, htape, hout, hsize, hold⟩, hnd, hmem, hx⟩
  obtain ⟨gs2, q1, q2⟩ := eat_end k hi1 hR hos htape hout hsize hold hnd hmem hx hno
  exact ⟨v, _, _, _, gs2, rfl, hK, q1, q2⟩
theorem mapO_relG {f : A → Option A} {w : World} {G G' : Nat → Prop} {gs : Gh} {rows : List (Option Row)} (hf : ∀ x v F y, (∀ b ∈ F, G' b) → TRel w G rows gs x v F → f x = some y → Rel w G' y v []) : ∀ {xs : List A} {vs : List Value} {F : List Nat} {ys : List A},
    (∀ b ∈ F, G' b) → TRelL w G rows gs xs vs F → mapO f xs = some ys → RelL w G' ys vs []
  | [], _, _, ys, _, h, hm => by
    cases h
    simp only [mapO, Option.some.injEq] at hm
    subst hm; exact .nil
  | x :: xs, _, _, ys, hF, h, hm => by
    cases h with
    | cons h hl =>
      simp only [mapO] at hm
      cases hx : f x with
      | none => rw [hx] at hm; simp at hm
      | some y =>
        rw [hx] at hm
        cases hxs : mapO f xs with
        | none => rw [hxs] at hm; simp at hm
        | some us =>
          rw [hxs] at hm
          simp only [Option.some.injEq] at hm
          subst hm
          exact .cons (F := []) (Fs := []) (hf _ _ _ _ (fun b hb => hF b (by simp [hb])) h hx) (mapO_relG hf (fun b hb => hF b (by simp [hb])) hl hxs)
theorem roO_relG {E : Env} {G G' : Nat → Prop} {gs : Gh} {tmps : Array Value} {w : World} (hi : Inv E G gs S tmps w) (hGO : ∀ b, G b → G' b) (hrow : ∀ r row, rowAt S.rows r = some row → ∀ b ∈ gs.all r, G' b) :
    ∀ (k : Nat) (x : A) (v : Value) (F : List Nat) (y : A), (∀ b ∈ F, G' b) → TRel w G S.rows gs x v F → roO S k x = some y → Rel w G' y v [] := by
  intro k
  induction k with
  | zero => intro x v F y _ _ hy; simp [roO] at hy
  | succ k ih =>
    intro x v F y hF h hy
    have plain : ∀ {x : A} {v : Value}, TRel w G S.rows gs x v F → isData x = true → Rel w G' (Fw.frz x) v [] := fun h hd => (h.data hd).frz hGO hF
    cases x with
    | un => simp [roO] at hy
    | sc u =>
      simp only [roO, Option.some.injEq] at hy; subst hy
      have := plain h (isData_sc u); rwa [frz_sc] at this
    | nil =>
      simp only [roO, Option.some.injEq] at hy; subst hy
      have := plain h isData_nil; rwa [frz_nil] at this
    | sl o n xs =>
      cases o with
      | true =>
        simp only [roO, Option.some.injEq] at hy; subst hy
        have := plain h (isData_sl true n xs); rwa [frz_sl] at this
      | false =>
        simp only [roO, Option.some.injEq] at hy; subst hy
        exact (h.data (isData_sl false n xs)).noOwn (by simp [noOwn_sl]) ▸ (h.data (isData_sl false n xs)).move_ (fun b hb => ⟨hGO b hb, rfl⟩) (fun b hb => rfl)
    | rp xs =>
      simp only [roO, Option.some.injEq] at hy; subst hy
      exact (h.data (isData_rp xs)).noOwn (by simp [noOwn_rp]) ▸ (h.data (isData_rp xs)).move_ (fun b hb => ⟨hGO b hb, rfl⟩) (fun b hb => rfl)
    | bx xs =>
      simp only [roO, Option.some.injEq] at hy; subst hy
      have := plain h (isData_bx xs); rwa [frz_bx] at this
    | agg xs =>
      simp only [roO, Option.map_eq_some_iff] at hy
      obtain ⟨ys, h1, rfl⟩ := hy
      obtain ⟨cs, rfl, hl⟩ := agg_inv h
      have := Rel.agg (mapO_relG (G' := G') (fun x v F y hF hx hy => ih x v F y hF hx hy) hF hl h1)
      simpa using this
    | tup xs =>
      simp only [roO, Option.map_eq_some_iff] at hy
      obtain ⟨ys, h1, rfl⟩ := hy
      obtain ⟨cs, rfl, hl⟩ := tup_inv h
      have := Rel.tup (mapO_relG (G' := G') (fun x v F y hF hx hy => ih x v F y hF hx hy) hF hl h1)
      simpa using this
    | clo g xs =>
      simp only [roO, Option.map_eq_some_iff] at hy
      obtain ⟨ys, h1, rfl⟩ := hy
      cases h with
      | of h => cases h with | clo hl => exact .clo (mapO_relG (gs := gs) (rows := S.rows) (G' := G') (fun x v F y hF hx hy => ih x v F y hF hx hy) hF (.of hl) h1)
      | clo hl => exact .clo (mapO_relG (G' := G') (fun x v F y hF hx hy => ih x v F y hF hx hy) hF hl h1)
    | vw r off len =>
      simp only [roO] at hy
      cases hr : rowAt S.rows r with
      | none => simp [hr] at hy
      | some row =>
        simp only [hr] at hy
        split at hy
        · simp at hy
        · rename_i hlk
          simp only [Option.some.injEq] at hy
          subst hy
          rcases vw_inv h with ⟨row', kk, cap, cur, e, b, hr', hob, g1, g2, g3, g4, g5, g6, rfl⟩ | ⟨row', hr', hob, hxs, rfl, rfl, rfl⟩
          · rw [hr] at hr'
            obtain rfl := Option.some.inj hr'
            have hrr := hi.row r row hr
            rw [hob] at hrr
            obtain ⟨cur', e', cap', h1, h2, h3, h4, h5, h6, h7⟩ := hrr.ex
            rw [g2] at h1
            simp only [Option.some.injEq, Obj.cells.injEq] at h1
            obtain ⟨rfl, rfl, _⟩ := h1
            unfold CellsRel at h7
            rw [if_neg hlk] at h7
            obtain ⟨F1, F2, e1, _, k2⟩ := h7.take_ (off * row.n)
            obtain ⟨F3, F4, e2, k3, _⟩ := k2.take_ (len * row.n)
            rw [flat_drop off h5, flat_take len (fun y hy => h5 y (List.mem_of_mem_drop hy))] at k3
            have hle : (off + len) * row.n ≤ row.xs.length * row.n := Nat.mul_le_mul_right _ g1
            rw [Nat.add_mul] at hle
            rw [List.drop_take, List.take_take, Nat.min_eq_left (by omega)] at k3
            have k4 := RelL.frz k3 (G' := G') hGO (fun c hc => hrow r row hr c (by simp [Gh.all, e1, e2, hc]))
            rw [← flat_frz] at k4
            have hlen : len = (((row.xs.drop off).take len).map Fw.frz).length := by simp; omega
            have hw : ∀ y ∈ ((row.xs.drop off).take len).map Fw.frz, y.width = row.n := fun y hy => by
              obtain ⟨z, hz, rfl⟩ := List.mem_map.1 hy
              rw [width_frz]; exact h5 z (List.mem_of_mem_drop (List.mem_of_mem_take hz))
            have hold : G' b := hrow r row hr b (by simp [Gh.all, hob])
            refine .ro g2 hold hw hlen rfl ?_ (by omega) (by omega)
            rcases g6 with hk | hk
            · rw [hk]; exact k4
            · have h0 : len = 0 := by omega
              subst h0
              simpa using k4
          · rw [hr] at hr'
            obtain rfl := Option.some.inj hr'
            simpa using Rel.nils
    | pt r j o =>
      simp only [roO] at hy
      cases hr : rowAt S.rows r with
      | none => simp [hr] at hy
      | some row =>
        simp only [hr] at hy
        by_cases hjo : j < row.xs.length ∧ o ≤ row.n
        case neg => rw [if_neg hjo] at hy; simp at hy
        rw [if_pos hjo] at hy
        obtain ⟨row', b, hr', hb, rfl⟩ := pt_inv h
        rw [hr] at hr'
        obtain rfl := Option.some.inj hr'
        obtain ⟨b', hb', hrc⟩ := row_real hi hr (by omega)
        rw [hb] at hb'
        obtain rfl := Option.some.inj hb'
        obtain ⟨cur, e, cap, h1, h2, h3, h4, h5, h6, h7⟩ := hrc.ex
        have hz : row.xs[j]? = some (row.xs.getD j .un) := by simp [List.getD_eq_getElem?_getD, List.getElem?_eq_getElem hjo.1]
        generalize row.xs.getD j .un = x at hy hz
        have hw := h5 x (List.mem_of_getElem? hz)
        unfold A.width at hw
        have hseg := flat_seg h5 hz o (row.n - o) (by omega)
        have hxl : ((x.cells.drop o).take (row.n - o)) = x.cells.drop o := by rw [List.take_of_length_le (by simp; omega)]
        have hle : (j + 1) * row.n ≤ row.xs.length * row.n := Nat.mul_le_mul_right _ hjo.1
        rw [Nat.add_mul] at hle
        have hcur : ((cur.toList.take (row.xs.length * row.n)).drop (j * row.n + o)).take (row.n - o) = (cur.toList.drop (j * row.n + o)).take (row.n - o) := by
          rw [List.drop_take, List.take_take, Nat.min_eq_left (by omega)]
        have hold : G' b := hrow r row hr b (by simp [Gh.all, hb])
        have hlenx : (x.cells.drop o).length = row.n - o := by simp; omega
        obtain ⟨F1, F2, e1, _, k2⟩ := h7.t.take_ (j * row.n + o)
        obtain ⟨F3, F4, e2, k3, _⟩ := k2.take_ (row.n - o)
        rw [hseg, hxl, hcur] at k3
        by_cases hlk : row.lk = true
        · rw [if_pos hlk] at hy
          simp only [Option.map_eq_some_iff] at hy
          obtain ⟨ys, hm, rfl⟩ := hy
          have k4 := mapO_relG (G' := G') (fun x v F y hF hx hy => ih x v F y hF hx hy) (fun c hc => hrow r row hr c (by simp [Gh.all, e1, e2, hc])) k3 hm
          have hyl : ys.length = row.n - o := by rw [← k4.length, k3.length, hlenx]
          exact .rp h1 hold rfl (by rw [hyl]; exact k4)
        · rw [if_neg hlk] at hy
          simp only [Option.some.injEq] at hy
          subst hy
          unfold CellsRel at h7
          rw [if_neg hlk] at h7
          obtain ⟨F1', F2', e1', _, k2'⟩ := h7.take_ (j * row.n + o)
          obtain ⟨F3', F4', e2', k3', _⟩ := k2'.take_ (row.n - o)
          rw [hseg, hxl, hcur] at k3'
          have k4 := RelL.frz k3' (G' := G') hGO (fun c hc => hrow r row hr c (by simp [Gh.all, e1', e2', hc]))
          exact .rp h1 hold rfl (by rw [List.length_map, hlenx]; exact k4)

/-- One own row is handed over for good, all else is only read. -/
theorem CallOK_eat2 {g k r len : Nat} {row : Row} {rest ys0 ys : List A} {x : A} {K : A → State → Prop} (hc : ECtr P g (.sl true row.n row.xs :: ys) x) (hr : rowAt S.rows r = some row) (hlk : row.lk = false) (hlen : len = row.xs.length)
    (h1 : mapO (roO (S.turn r none) k) (rest.map (kill r)) = some ys0) (h2 : fitA.fitL k ys0 ys) (hxf : roFree x = true) (hno : noOwn (rootA k (S.turn r none) x).1 = true) (hK : K (rootA k (S.turn r none) x).1 (rootA k (S.turn r none) x).2) :
    CallOK P g (.vw r 0 len :: rest) S K := by
  refine ⟨hc.enter, fun E G gs tmps w vs hi hl => ?_⟩
  generalize hF0 : ([] : List Nat) = F0 at hl
  cases hl with
  | cons hv hl =>
    rename_i v0 Fa vs Fb
    have hFF : Fa = [] ∧ Fb = [] := by simpa using hF0.symm
    obtain ⟨rfl, rfl⟩ := hFF
    have hst1 : stash1 S (.vw r 0 len) = (0 = 0 ∧ len ≤ row.xs.length ∧ row.lk = false, .sl true row.n (row.xs.take len), S.turn r none, [r]) := by simp only [stash1, hr]
    obtain ⟨F, hst, hrel⟩ := stash1_ok (R := []) hi Res.nil hv (by rw [hst1]; exact ⟨rfl, by omega, hlk⟩)
    rw [hst1] at hst hrel
    rw [List.take_of_length_le (by omega)] at hrel
    rw [List.append_nil] at hst
    have hi1 : Inv E G gs (S.turn r none) tmps w := hst.inv
    have hR : Res E G gs (S.turn r none).rows F := hst.res
    have hlt : ∀ b ∈ F, b < w.heap.size := hst.lt (by simp)
    have hl' : TRelL w G (S.turn r none).rows gs (rest.map (kill r)) vs [] := by
      have := hst.stepL rest vs hl
      exact this
    have hys := fitL_rel (fun x y v F => fitA_rel k x y v F) ys0 ys vs [] h2 (mapO_relG (G' := fun b => b < w.heap.size ∧ b ∉ F) (fun x v F y hF hx hy => roO_relG hi1 (fun b hb => ⟨hi1.glt b hb, fun hb2 => (hR.own b hb2).1 hb⟩) (fun r row hr b hb => ⟨hi1.block_lt hr b hb, hR.dis r row hr b hb⟩) k x v F y hF hx hy) (by simp) hl' h1)
    have hargs : RelL w (fun b => b < w.heap.size ∧ b ∉ F) (.sl true row.n row.xs :: ys) (v0 :: vs) F := by
      have := RelL.cons (hrel.move_ (w' := w) (G' := fun b => b < w.heap.size ∧ b ∉ F) (fun b hb => ⟨⟨hi1.glt b hb, fun hb2 => (hR.own b hb2).1 hb⟩, rfl⟩) (fun _ _ => rfl)) hys
      simpa using this
    refine Calls.mono (hc.run w (fun b => b < w.heap.size ∧ b ∉ F) (v0 :: vs) F (fun b hb => hb.1) hR.nod (fun b hb h => h.2 hb) hargs) ?_
    rintro e w' ⟨v, Fx, rfl, ⟨hos, htape, hout, hsize, hold⟩, hnd, hmem, hx⟩
    obtain ⟨gs2, q1, q2⟩ := eat_end k hi1 hR hos htape hout hsize hold hnd hmem (hx.anyG hxf _) hno
    exact ⟨v, _, _, _, gs2, rfl, hK, q1, q2⟩
theorem call_eat2 (hΩ : Ω = std) (k : Nat) {g r len : Nat} {row : Row} {rest ys0 ys : List A} {x : A} {K : A → State → Prop} (hc : ECtr P g (.sl true row.n row.xs :: ys) x) (hr : rowAt S.rows r = some row) (hlk : row.lk = false) (hlen : len = row.xs.length)
    (h1 : mapO (roO (S.turn r none) k) (rest.map (kill r)) = some ys0) (h2 : fitA.fitL k ys0 ys) (hxf : roFree x = true) (hno : noOwn (rootO Ω k (S.turn r none) x).1 = true) (hK : K (rootO Ω k (S.turn r none) x).1 (rootO Ω k (S.turn r none) x).2) :
    CallX P g (.vw r 0 len :: rest) S K := by
  subst hΩ
  rw [rootO_std] at hno hK
  exact ⟨CallOK_eat2 hc hr hlk hlen h1 h2 hxf hno hK⟩
/-- The same as a condition that is reckoned. -/
theorem call_eat (hΩ : Ω = std) (k : Nat) {g : Nat} {args ys : List A} {x : A} {K : A → State → Prop} (hc : ECtr P g ys x)
    (h : vStash Ω args.length S args fun us S' _ => FitLX us ys ∧ noOwn (rootO Ω k S' x).1 = true ∧ K (rootO Ω k S' x).1 (rootO Ω k S' x).2) : CallX P g args S K := by
  subst hΩ
  obtain ⟨h1, ⟨j, h2⟩, h3, h4⟩ := vStash_ok _ _ _ _ h
  rw [rootO_std] at h3 h4
  exact ⟨CallOK_eat hc h1 h2 h3 h4⟩
end
section
variable {P : Program} {E : Env} {G : Nat → Prop} {gs : Gh} {S : State} {w : World} {tmps : Array Value}
/-- One cell of a row: what is told of it may be told otherwise. -/
theorem Inv.cell (hi : Inv E G gs S tmps w) {r j q : Nat} {row : Row} {y z : A} (hr : rowAt S.rows r = some row) (hy : row.xs[j]? = some y) (hz : y.cells[q]? = some z) :
    ∃ b cur e v F1 Fz F3, (gs r).1 = some b ∧ w.heap[b]? = some (.cells cur e (0, 0)) ∧ cur[j * row.n + q]? = some v ∧ cellV v = true ∧ TRel w G S.rows gs z v Fz ∧ (gs r).2 = F1 ++ (Fz ++ F3) ∧
      ∀ z' Fy, z'.cells = [z'] → Res E G gs S.rows Fy → TRel w G S.rows gs z' v Fy → Inv E G (gs.add r (some b) (F1 ++ (Fy ++ F3))) (S.setRow r ⟨row.n, row.xs.set j (newElem y q [z']), true⟩) tmps w ∧
        Res E G (gs.add r (some b) (F1 ++ (Fy ++ F3))) (S.setRow r ⟨row.n, row.xs.set j (newElem y q [z']), true⟩).rows Fz ∧
        ∀ x u, TRel w G S.rows gs x u [] → TRel w G (S.setRow r ⟨row.n, row.xs.set j (newElem y q [z']), true⟩).rows (gs.add r (some b) (F1 ++ (Fy ++ F3))) x u [] := by
  have hj : j < row.xs.length := (List.getElem?_eq_some_iff.1 hy).1
  obtain ⟨b, hb, hrc⟩ := row_real hi hr (by omega)
  obtain ⟨cur, e, cap, h1, h2, h3, h4, h5, h6, h7⟩ := hrc.ex
  have hyw := h5 y (List.mem_of_getElem? hy)
  have hq : q < y.cells.length := (List.getElem?_eq_some_iff.1 hz).1
  unfold A.width at hyw
  have hle : (j + 1) * row.n ≤ row.xs.length * row.n := Nat.mul_le_mul_right _ hj
  rw [Nat.add_mul] at hle
  have hle2 : row.xs.length * row.n ≤ cap * row.n := Nat.mul_le_mul_right _ h3
  obtain ⟨F1, F4, e1, k1, k2⟩ := h7.t.take_ (j * row.n + q)
  obtain ⟨Fz, F3, e2, k3, k4⟩ := k2.take_ 1
  rw [List.drop_drop] at k4
  have hseg := flat_seg h5 hy q 1 (by omega)
  have hseg2 : (y.cells.drop q).take 1 = [z] := by
    rw [List.drop_eq_getElem_cons hq]
    rw [List.getElem?_eq_getElem hq] at hz
    simp only [Option.some.injEq] at hz
    simp [hz]
  rw [hseg, hseg2] at k3
  obtain ⟨v, hv⟩ : ∃ v, cur[j * row.n + q]? = some v := ⟨_, Array.getElem?_eq_getElem (by omega)⟩
  have hvs : ((cur.toList.take (row.xs.length * row.n)).drop (j * row.n + q)).take 1 = [v] := by
    rw [List.drop_take, List.take_take, Nat.min_eq_left (by omega)]
    obtain ⟨hv1, hv2⟩ := Array.getElem?_eq_some_iff.1 hv
    rw [List.drop_eq_getElem_cons (by simpa using hv1)]
    simp [hv2]
  rw [hvs] at k3
  have hzv : TRel w G S.rows gs z v Fz := by
    generalize hu : [v] = us at k3
    cases k3 with
    | cons a c =>
      cases c
      cases hu
      simpa using a
  have hcv : cellV v = true := h6 v (by
    have : v ∈ ((cur.toList.take (row.xs.length * row.n)).drop (j * row.n + q)).take 1 := by rw [hvs]; simp
    exact List.mem_of_mem_drop (List.mem_of_mem_take this))
  subst e2
  refine ⟨b, cur, e, v, F1, Fz, F3, hb, h1, hv, hcv, hzv, e1, fun z' Fy hz' hRy hz2 => ?_⟩
  have hcl := newElem_cells' (x := y) (q := q) (ys := [z']) (by unfold A.width; simp; omega) (by simp) (by simpa using hz')
  have hflat := flat_set h5 hy (q := q) (ys := [z']) (by simp; omega) hcl
  have hnod := hi.nod r row hr
  rw [show gs.all r = b :: (F1 ++ (Fz ++ F3)) by simp [Gh.all, hb, e1]] at hnod
  have hnd := (List.nodup_cons.1 hnod).2
  have hdy : ∀ c ∈ b :: (F1 ++ (Fz ++ F3)), c ∉ Fy := fun c hc => hRy.dis r row hr c (by rw [show gs.all r = b :: (F1 ++ (Fz ++ F3)) by simp [Gh.all, hb, e1]]; exact hc)
  refine hi.recast (Fy := Fy) (row' := ⟨row.n, row.xs.set j (newElem y q [z']), true⟩) hr rfl List.length_set hb hRy (R := Fz) (F' := F1 ++ (Fy ++ F3)) (fun c hc => ?_) ?_ ?_
  · rw [e1]
    simp only [List.mem_append] at hc ⊢
    rcases hc with (h | h | h) | h
    · exact .inl (.inl h)
    · exact .inr h
    · exact .inl (.inr (.inr h))
    · exact .inl (.inr (.inl h))
  · rw [List.nodup_append] at hnd ⊢
    obtain ⟨m1, m2, m3⟩ := hnd
    rw [List.nodup_append] at m2
    obtain ⟨m4, m5, m6⟩ := m2
    refine ⟨List.nodup_append.2 ⟨m1, List.nodup_append.2 ⟨hRy.nod, m5, fun a ha c hc h => by subst h; exact hdy a (by simp [hc]) ha⟩, fun a ha c hc h => ?_⟩, m4, fun a ha c hc h => ?_⟩
    · subst h
      rcases List.mem_append.1 hc with hc | hc
      · exact hdy a (by simp [ha]) hc
      · exact m3 a ha a (by simp [hc]) rfl
    · subst h
      rcases List.mem_append.1 ha with ha | ha
      · exact m3 a ha a (by simp [hc]) rfl
      · rcases List.mem_append.1 ha with ha | ha
        · exact hdy a (by simp [hc]) ha
        · exact m6 a hc a ha rfl
  · refine ⟨cur, e, cap, h1, h2, by simpa using h3, h4, ?_, ?_, ?_⟩
    · intro u hu
      rcases List.mem_or_eq_of_mem_set hu with hu | rfl
      · exact h5 u hu
      · show (newElem y q [z']).cells.length = row.n
        rw [hcl]; simp; omega
    · simpa using h6
    · show CellsRel true w G S.rows gs (flat (row.xs.set j (newElem y q [z']))) (cur.toList.take ((row.xs.set j (newElem y q [z'])).length * row.n)) (F1 ++ (Fy ++ F3))
      unfold CellsRel
      rw [if_pos rfl, List.length_set, hflat]
      generalize cur.toList.take (row.xs.length * row.n) = l at hvs k1 k4
      generalize j * row.n + q = p at hvs k1 k4
      have hs1 : l.drop p = [v] ++ (l.drop p).drop 1 := by rw [← hvs, List.take_append_drop]
      have hs2 : l = l.take p ++ ([v] ++ (l.drop p).drop 1) := by rw [← hs1, List.take_append_drop]
      rw [List.append_assoc]
      have := k1.append ((TRelL.cons hz2 .nil).append k4)
      rw [← hs2] at this
      simpa using this
/-- A nil slice in a cell of an own row told as an own row without a block. -/
theorem Sbs.nilCell {r j q n : Nat} {row : Row} {y : A} (hr : rowAt S.rows r = some row) (hy : row.xs[j]? = some y) (hz : y.cells[q]? = some .nil) :
    Sbs S ((S.addRow ⟨n, [], false⟩).setRow r ⟨row.n, row.xs.set j (newElem y q [.vw S.rows.length 0 0]), true⟩) := by
  intro E a w ⟨hd, G, gs, hi⟩
  have hR := adopt_res (R1 := []) (R2 := []) (ob := none) (F := []) hi Res.nil (by simp) rfl (row := ⟨n, [], false⟩) (fun _ _ => ⟨rfl, rfl⟩)
  have hlt := rowAt_lt hr
  have hr1 : rowAt (S.addRow ⟨n, [], false⟩).rows r = some row := by
    show rowAt (S.rows ++ [some ⟨n, [], false⟩]) r = _
    rw [rowAt_push, if_neg (by omega)]; exact hr
  obtain ⟨b, cur, e, v, F1, Fz, F3, _, _, _, _, hzv, _, hcell⟩ := hR.inv.cell hr1 hy hz
  have hv : v = .slice none 0 0 := by
    cases hzv with | of h => cases h; rfl
  have hself : (gs.add S.rows.length none []) S.rows.length = (none, []) := by simp [Gh.add]
  obtain ⟨h1, _, _⟩ := hcell (.vw S.rows.length 0 0) [] rfl Res.nil (by
    rw [hv]
    refine .vwn (row := ⟨n, [], false⟩) ?_ (by rw [hself]) rfl
    show rowAt (S.rows ++ [some ⟨n, [], false⟩]) S.rows.length = _
    rw [rowAt_push, if_pos rfl])
  exact ⟨hd, G, _, h1⟩
end
end Go.Fw

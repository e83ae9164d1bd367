/- Slicing; making slices; what is on its way into memory. Plain theorems, no condition. -/
import Derived.Test.YtdngjnjapihbkaaFw7
set_option linter.unusedVariables false
set_option linter.unusedSimpArgs false
namespace Go.Fw

section
variable {P : Program} {E : Env} {G : Nat → Prop} {gs : Gh} {S : State} {a : Act} {w : World} {tmps : Array Value}

def okOpt : Option Operand → Bool
  | none => true
  | some x => okO x
theorem opt_rel (hi : Inv E G gs S a.tmps w) (x : Option Operand) (hx : okOpt x = true) : (∀ y, x.map (ev S) = some y → ∃ v, x.map a.eval = some v ∧ TRel w G S.rows gs y v []) ∧ (x.map (ev S) = none → x.map a.eval = none) := by
  cases x with
  | none => exact ⟨by simp, by simp⟩
  | some x => exact ⟨fun y hy => ⟨_, rfl, by simp at hy; subst hy; exact ev_rel hi x hx⟩, by simp⟩

theorem VOK_slice_str {o : Oper} {t : TypeId} {x : Operand} {lo hi : Option Operand} {s : ByteArray} {l h : Nat} (ho : o.op = .slice t x lo hi none) (hx : okO x = true) (hlo : okOpt lo = true) (hhi : okOpt hi = true)
    (ht : isStrT P t = true) (he : ev S x = .sc (.string s)) (h1 : bnd (lo.map (ev S)) 0 = some (l : Int)) (h2 : bnd (hi.map (ev S)) (bs s).length = some (h : Int)) (hlh : l ≤ h) (hhl : h ≤ (bs s).length)
    : VOK P o S (.sc (.string (mkS (((bs s).take h).drop l)))) := by
  refine fun E G gs a w hinv => ⟨_, ?_, .of (.sc rfl)⟩
  have e1 := ev_rel hinv x hx
  rw [he] at e1
  have v1 := (sc_inv e1).1
  have hu : P.underlying t = some .string := by
    unfold isStrT at ht
    split at ht
    · assumption
    · simp at ht
  obtain ⟨a1, a2⟩ := opt_rel hinv lo hlo
  obtain ⟨b1, b2⟩ := opt_rel hinv hi hhi
  rw [bs_length] at h2 hhl
  have hb := slice_bounds (P := P) (isS := false) (lo.map a.eval) (hi.map a.eval) _ _ h1 h2 a1 a2 b1 b2 hlh hhl (Nat.le_refl _)
  have e : s.extract l h = mkS (((bs s).take h).drop l) := by
    apply ByteArray.ext
    apply Array.ext'
    simp [mkS, bs, ByteArray.data_extract, List.extract_eq_take_drop, List.drop_take]
  intro w' hw'
  simp [execOp, ho, v1, Instr.sliceAt, run_underlying hu, Instr.slice, hb, e]

theorem VOK_slice_vw {o : Oper} {t e : TypeId} {x : Operand} {lo hi : Option Operand} {r off len : Nat} {row : Row} {l h : Nat} (ho : o.op = .slice t x lo hi none) (hx : okO x = true) (hlo : okOpt lo = true) (hhi : okOpt hi = true)
    (he : ev S x = .vw r off len) (hr : rowAt S.rows r = some row) (ht : elemT P t = some e) (hs : szT P e = some row.n) (h1 : bnd (lo.map (ev S)) 0 = some (l : Int)) (h2 : bnd (hi.map (ev S)) len = some (h : Int)) (hlh : l ≤ h) (hhl : h ≤ len)
    : VOK P o S (.vw r (off + l) (h - l)) := by
  refine fun E G gs a w hinv => ?_
  have e1 := ev_rel hinv x hx
  rw [he] at e1
  obtain ⟨a1, a2⟩ := opt_rel hinv lo hlo
  obtain ⟨b1, b2⟩ := opt_rel hinv hi hhi
  rcases vw_inv e1 with ⟨row', k, cap, cur, et, b, hr', hob, g1, g2, g3, g4, g5, g6, hv⟩ | ⟨row', hr', hob, hx0, rfl, rfl, hv⟩
  case inr =>
    have : l = 0 := by omega
    subst this
    have : h = 0 := by omega
    subst this
    have hb := slice_bounds (P := P) (isS := true) (lo.map a.eval) (hi.map a.eval) _ _ h1 h2 a1 a2 b1 b2 (by omega) (by simp) (cap := 0) (by simp)
    refine ⟨.slice none 0 0, ?_, .vwn hr' hob hx0⟩
    intro w' hw'
    simp [execOp, ho, hv, Instr.sliceAt, run_underlying (elemT_inv ht), Instr.slice, hb, run_sizeOf hs]
  rw [hr] at hr'
  obtain rfl := Option.some.inj hr'
  have hb := slice_bounds (P := P) (isS := true) (lo.map a.eval) (hi.map a.eval) _ _ h1 h2 a1 a2 b1 b2 hlh hhl (cap := cap - off) (by omega)
  have hu := elemT_inv ht
  have hcap : cap - off - l = cap - (off + l) := by omega
  refine ⟨.slice (some ⟨b, if cap - off = l then k else k + l * row.n, none⟩) (h - l) (cap - (off + l)), ?_, .vw hr hob (by omega) g2 g3 g4 g5 ?_⟩
  · intro w' hw'
    simp [execOp, ho, hv, Instr.sliceAt, run_underlying hu, Instr.slice, hb, run_sizeOf hs, hcap]
    split <;> simp [add_none]
  · split
    · rcases Nat.eq_zero_or_pos l with h0 | h0
      · subst h0
        rcases g6 with g6 | g6
        · left; simpa using g6
        · right; omega
      · right; omega
    · rcases g6 with g6 | g6
      · left; rw [g6, Nat.add_mul]
      · right; omega

theorem VOK_slice_sl {o : Oper} {t e : TypeId} {x : Operand} {lo hi : Option Operand} {n : Nat} {xs : List A} {l h : Nat} (ho : o.op = .slice t x lo hi none) (hx : okO x = true) (hlo : okOpt lo = true) (hhi : okOpt hi = true)
    (he : ev S x = .sl false n xs) (ht : elemT P t = some e) (hs : szT P e = some n) (h1 : bnd (lo.map (ev S)) 0 = some (l : Int)) (h2 : bnd (hi.map (ev S)) xs.length = some (h : Int)) (hlh : l ≤ h) (hhl : h ≤ xs.length)
    : VOK P o S (.sl false n ((xs.take h).drop l)) := by
  refine fun E G gs a w hinv => ?_
  have e1 := ev_rel hinv x hx
  rw [he] at e1
  obtain ⟨a1, a2⟩ := opt_rel hinv lo hlo
  obtain ⟨b1, b2⟩ := opt_rel hinv hi hhi
  have hu := elemT_inv ht
  rcases slf_inv e1 with ⟨⟨oa, hv⟩, rfl⟩ | ⟨b, k, cap, cur, et, fr, hv, hh, hg, hw, hrel, hcap, hm⟩
  · simp at hhl
    subst hhl
    have : l = 0 := by omega
    subst this
    have hb := slice_bounds (P := P) (isS := true) (lo.map a.eval) (hi.map a.eval) _ _ h1 h2 a1 a2 b1 b2 (by omega) (by simp) (cap := 0) (by simp)
    simp only [List.length_nil] at hb
    refine ⟨.slice oa 0 0, ?_, .of (by cases oa with | none => simpa using Rel.nils | some ad => simpa using Rel.roz)⟩
    intro w' hw'
    cases oa <;>
    simp [execOp, ho, hv, Instr.sliceAt, run_underlying hu, Instr.slice, hb, run_sizeOf hs]
  · have hb := slice_bounds (P := P) (isS := true) (lo.map a.eval) (hi.map a.eval) _ _ h1 h2 a1 a2 b1 b2 hlh hhl hcap
    have hlen : h - l = ((xs.take h).drop l).length := by simp; omega
    refine ⟨.slice (some ⟨b, if cap = l then k else k + l * n, none⟩) (h - l) (cap - l), ?_, .of (.ro hh hg (fun x hx => hw x (List.mem_of_mem_take (List.mem_of_mem_drop hx))) hlen rfl ?_ (by omega) (by omega))⟩
    · intro w' hw'
      simp [execOp, ho, hv, Instr.sliceAt, run_underlying hu, Instr.slice, hb, run_sizeOf hs]
      split <;> simp [add_none]
    · have h3 := (hrel.take0 (h * n)).drop0 (l * n)
      rw [flat_take h hw, flat_drop l (fun x hx => hw x (List.mem_of_mem_take hx))] at h3
      have hle : h * n ≤ xs.length * n := Nat.mul_le_mul_right _ hhl
      have e4 : List.drop (l * n) (List.take (h * n) (List.take (xs.length * n) (cur.toList.drop k))) = (cur.toList.drop (k + l * n)).take ((h - l) * n) := by
        rw [List.take_take, Nat.min_eq_left hle, List.drop_take, List.drop_drop, ← Nat.sub_mul]
      rw [e4] at h3
      split
      · rename_i hc
        have h0 : h - l = 0 := by omega
        rw [h0] at h3 ⊢
        simpa using h3
      · exact h3
theorem VOK_slice_nil {o : Oper} {t e : TypeId} {x : Operand} {lo hi : Option Operand} {n : Nat} (ho : o.op = .slice t x lo hi none) (hx : okO x = true) (hlo : okOpt lo = true) (hhi : okOpt hi = true)
    (he : ev S x = .nil) (ht : elemT P t = some e) (hs : szT P e = some n) (h1 : bnd (lo.map (ev S)) 0 = some 0) (h2 : bnd (hi.map (ev S)) 0 = some 0)
    : VOK P o S .nil := by
  refine fun E G gs a w hinv => ?_
  have e1 := ev_rel hinv x hx
  rw [he] at e1
  have hv : a.eval x = .slice none 0 0 := by
    generalize a.eval x = u at e1
    cases e1 with | of h => cases h; rfl
  obtain ⟨a1, a2⟩ := opt_rel hinv lo hlo
  obtain ⟨b1, b2⟩ := opt_rel hinv hi hhi
  have hb := slice_bounds (P := P) (isS := true) (l := 0) (h := 0) (len := 0) (cap := 0) (lo.map a.eval) (hi.map a.eval) _ _ h1 h2 a1 a2 b1 b2 (by omega) (by simp) (by simp)
  refine ⟨.slice none 0 0, ?_, .of .nil⟩
  intro w' hw'
  simp [execOp, ho, hv, Instr.sliceAt, run_underlying (elemT_inv ht), Instr.slice, hb, run_sizeOf hs]

/-- make([]T, n). -/
theorem opOK_makeSlice {o : Oper} {K : State → Prop} {t e : TypeId} {x y : Operand} {k k' : IntKind} {n s : Nat} {z : Value} (ho : o.op = .makeSlice t x y) (hx : okO x = true) (hy : okO y = true)
    (h1 : ev S x = .sc (.int k (n : Int))) (h2 : ev S y = .sc (.int k' (n : Int))) (ht : elemT P t = some e) (hs : szT P e = some s) (hz : zeroT P e = some z) (hzv : okV z = true) (hzw : (constA z).width = s) (hsp : 0 < s)
    (hb : bytesT P e * n ≤ 140737488355328) (hm : n ≤ maxLen)
    (hK : K ((S.addRow ⟨s, List.replicate n (constA z), false⟩).put o.dst (.vw S.rows.length 0 n))) : opOK P o S K := by
  refine opOK_row (row := ⟨s, List.replicate n (constA z), false⟩) _ hK fun E G gs a w hi => ?_
  have e1 := ev_rel hi x hx
  have e2 := ev_rel hi y hy
  rw [h1] at e1
  rw [h2] at e2
  have v1 := (sc_inv e1).1
  have v2 := (sc_inv e2).1
  have hu := elemT_inv ht
  unfold szT at hs
  unfold zeroT at hz
  unfold bytesT at hb
  cases hit : P.info? e with
  | none => simp [hit] at hs
  | some it =>
    simp only [hit, Option.map_some, Option.some.injEq] at hs
    simp only [hit, Option.bind_some] at hz
    simp only [hit, Option.map_some, Option.getD_some] at hb
    have hzr : ∀ w' : World, ∀ G', RelL w' G' (constA z).cells z.cells.toList [] := by
      intro w' G'
      have h := rel_constA (w := w') (G := G') hzv
      unfold constA at h ⊢
      split
      · rename_i cs
        simp only at h
        cases h with | agg h => simpa [A.cells, Value.cells] using h
      · rename_i hne
        have hz1 : z.cells = #[z] := by cases z <;> simp_all [Value.cells]
        have hc : (cellA z).cells = [cellA z] := by unfold cellA; split <;> rfl
        rw [hz1, hc]
        refine .cons (F := []) (Fs := []) ?_ .nil
        have : constA z = cellA z := by unfold constA; split <;> simp_all
        split at h <;> simp_all
    have hzl : z.cells.size = s := by have := (hzr w G).length; simp at this; rw [this]; exact hzw
    have hbb : (it.bytes : Int) * (n : Int) ≤ 281474976710656 := by
      have h : ((it.bytes * n : Nat) : Int) ≤ 281474976710656 := by omega
      rwa [Int.natCast_mul] at h
    have hr := run_make (P := P) w t e it z hu hit hz k k' n n (by omega) (by omega) hbb (by simp [maxLen] at hm; omega)
    have hmade : (madeCells z.cells (n * s)).toList = (List.replicate n z.cells.toList).flatten := by
      apply List.ext_getElem?
      intro i
      have hsz : z.cells.toList.length = s := by simpa using hzl
      by_cases hi' : i < n * s
      · have hlen : (List.replicate n z.cells.toList).flatten.length = n * s := by simp [List.length_flatten, hsz]
        have hq : i / s < n := (Nat.div_lt_iff_lt_mul hsp).2 hi'
        have key : ∀ (m : Nat) (j : Nat), j < m * s → (List.replicate m z.cells.toList).flatten[j]? = z.cells.toList[j % s]? := by
          intro m
          induction m with
          | zero => intro j hj; omega
          | succ m ih =>
            intro j hj
            rw [List.replicate_succ, List.flatten_cons]
            by_cases hjs : j < s
            · rw [List.getElem?_append_left (by omega), Nat.mod_eq_of_lt hjs]
            · rw [List.getElem?_append_right (by omega), hsz, ih (j - s) (by rw [Nat.add_mul] at hj; omega), ← Nat.mod_eq_sub_mod (by omega)]
        rw [key n i hi']
        have hmod : i % s < s := Nat.mod_lt _ hsp
        have hmz : i % z.cells.size < z.cells.size := by rw [hzl]; exact hmod
        simp [madeCells, hi', hzl]
        rw [getElem!_pos z.cells (i % s) (by omega)]
        rw [Array.getElem?_eq_getElem (by omega)]
      · rw [List.getElem?_eq_none (by simp [madeCells]; omega), List.getElem?_eq_none (by simp [List.length_flatten, hsz]; omega)]
    have hflat : flat (List.replicate n (constA z)) = (List.replicate n (constA z).cells).flatten := by
      simp [flat, List.flatMap_replicate]
    have hrl : ∀ m : Nat, RelL w G (List.replicate m (constA z).cells).flatten (List.replicate m z.cells.toList).flatten [] := by
      intro m
      induction m with
      | zero => exact .nil
      | succ m ih =>
        rw [List.replicate_succ, List.replicate_succ, List.flatten_cons, List.flatten_cons]
        exact RelL.append (hzr w G) ih
    have hsize : (madeCells z.cells (n * s)).size = n * s := size_madeCells _ _
    have htake : (madeCells z.cells (n * s)).toList.take (n * s) = (List.replicate n z.cells.toList).flatten := by
      rw [List.take_of_length_le (by simp [hsize]), hmade]
    refine ⟨.slice (some ⟨w.heap.size, 0, none⟩) n n, madeCells z.cells (n * s), e, n, ?_, hsize, by simp, hm, ?_, ?_, ?_, ?_⟩
    · simp only [Int.toNat_natCast, hs] at hr
      simp [execOp, ho, v1, v2, hr]
    · intro x hx
      obtain ⟨_, rfl⟩ := List.mem_replicate.1 hx
      exact hzw
    · intro v hv
      simp only [List.length_replicate] at hv
      rw [htake] at hv
      have hz1 : ∀ v ∈ z.cells.toList, cellV v = true := by
        intro v hv
        cases z with
        | agg zs => exact List.all_eq_true.1 hzv v hv
        | tuple zs => simp [okV] at hzv
        | _ => simp only [Value.cells, List.mem_singleton] at hv; subst hv; rfl
      obtain ⟨l, hl, hv⟩ := List.mem_flatten.1 hv
      obtain ⟨_, rfl⟩ := List.mem_replicate.1 hl
      exact hz1 v hv
    · simp only [List.length_replicate]
      rw [htake, hflat]
      exact hrl n
    · exact addRow_vw hsize (by simp) hm n (by simp)
end
end Go.Fw

/- append. Plain theorems, no condition. -/
import Derived.Test.YtdngjnjapihbkaaFw11
set_option linter.unusedVariables false
set_option linter.unusedSimpArgs false
namespace Go.Fw

section
variable {P : Program} {E : Env} {G : Nat → Prop} {gs : Gh} {S : State} {a : Act} {w : World} {tmps : Array Value}

/-- What is appended: m elements of s cells, these cells. -/
structure Source (P : Program) (w : World) (s m : Nat) (v : Value) (news : List Value) : Prop where
  len : news.length = m * s
  lenOf : ∀ w', (Builtin.lenOf v).run P w' = .ok m w'
  first : ∀ w', w'.heap = w.heap → (Builtin.firstCells s m v).run P w' = .ok news.toArray w'
  cell : ∀ u ∈ news, cellV u = true

theorem bytesT_info {e : TypeId} {it : TypeInfo} (hit : P.info? e = some it) : bytesT P e = it.bytes := by simp [bytesT, hit]

/-- append to a row of the call's own. -/
theorem run_append_fw {t ty e : TypeId} {s m : Nat} {z : Value} (ht : elemT P t = some e) (hs : szT P e = some s) (hz : zeroT P e = some z) (hzs : z.cells.size = s) (hsp : 0 < s)
    {g len cap : Nat} {cur : Array Value} {e1 : TypeId} (hg : w.heap[g]? = some (.cells cur e1 (0, 0))) (hcs : cur.size = cap * s) (hlc : len ≤ cap) (hcm : cap ≤ maxLen)
    {xv : Value} {news : List Value} (hx : Source P w s m xv news) (hb : (len + m) * bytesT P e ≤ 140737488355328) (hm : len + m ≤ maxLen) :
    ∃ w' b' cur' e' cap', (Builtin.append_ #[t, t] ty #[.slice (some ⟨g, 0, none⟩) len cap, xv]).run P w = .ok (.slice (some ⟨b', 0, none⟩) (len + m) cap') w' ∧
      w'.heap[b']? = some (.cells cur' e' (0, 0)) ∧ cur'.size = cap' * s ∧ len + m ≤ cap' ∧ cap' ≤ maxLen ∧ cur'.toList.take ((len + m) * s) = cur.toList.take (len * s) ++ news ∧
      (b' = g ∨ b' = w.heap.size) ∧ w'.os = w.os ∧ w'.tape = w.tape ∧ w'.output = w.output ∧ w.heap.size ≤ w'.heap.size ∧ (∀ k, k < w.heap.size → k ≠ g → w'.heap[k]? = w.heap[k]?) := by
  have hu := elemT_inv ht
  have hs' := hs
  have hz' := hz
  unfold szT at hs'
  unfold zeroT at hz'
  cases hit : P.info? e with
  | none => simp [hit] at hs'
  | some it =>
    simp only [hit, Option.map_some, Option.some.injEq] at hs'
    simp only [hit, Option.bind_some] at hz'
    rw [bytesT_info hit] at hb
    have hlen1 : (cur.toList.take (len * s)).length = len * s := by
      have : len * s ≤ cap * s := Nat.mul_le_mul_right _ hlc
      simp; omega
    by_cases hroom : len + m ≤ cap
    · have hfit : len * s + news.length ≤ cur.size := by rw [hx.len, hcs, ← Nat.add_mul]; exact Nat.mul_le_mul_right _ hroom
      have hst := run_storeCells_at P g (len * s) e1 news 0 cur w hg (by simpa using hfit) hx.cell
      simp only [Nat.add_zero] at hst
      refine ⟨_, g, (cur.toList.take (len * s) ++ news ++ cur.toList.drop (len * s + news.length)).toArray, e1, cap, ?_, setRow_heap w g cur _ e1 _ hg, ?_, hroom, hcm, ?_, .inl rfl, rfl, rfl, rfl, by simp, fun k _ hk => setRow_other w g k _ hk⟩
      · simp [Builtin.append_, run_underlying hu, run_sizeOf hs, hx.lenOf, hroom, hx.first w rfl, Addr.add_lit, hst]
      · have h2 := hx.len
        simp only [List.size_toArray, List.length_append, List.length_drop, Array.length_toList, hlen1]
        omega
      · simp only [Nat.add_mul]
        rw [← hx.len, List.take_left' (by simp [hlen1])]
    · have hn : ¬ (len + m ≤ cap) := hroom
      have hmi : ((len + m : Nat) : Int) ≤ 9223372036854775807 := by simp [maxLen] at hm; omega
      have h63' : ¬ (9223372036854775807 < ((len : Int) + (m : Int))) := by omega
      have hfits := growslice_fits (need := len + m) (old := cap) (bytes := it.bytes) (by omega) hb
      have h48' : ¬ (281474976710656 < Builtin.nextslicecap (len + m) cap * it.bytes) := by omega
      have hfo : ∀ w', w'.heap = w.heap → (Builtin.firstCells s len (.slice (some ⟨g, 0, none⟩) len cap)).run P w' = .ok (cur.toList.take (len * s)).toArray w' := fun w' hw' =>
        run_firstCells_some (P := P) w' s len ⟨g, 0, none⟩ len cap _ hlen1 (fun j v hv => by
          rw [add_none, cell_at (w := w') (by rw [hw']; exact hg)]
          have hj : j < len * s := by
            rcases Nat.lt_or_ge j (len * s) with h | h
            · exact h
            · rw [List.getElem?_take_eq_none h] at hv; simp at hv
          rw [List.getElem?_take_of_lt hj] at hv
          simpa using hv)
      have hge := grownCap_ge w (len + m) cap e
      have hle := grownCap_le_maxLen w (len + m) cap e hm
      refine ⟨w.drew.alloc (.cells ((cur.toList.take (len * s)).toArray ++ news.toArray ++ Builtin.zeroCells z.cells (grownCap w (len + m) cap e - (len + m))) e), w.heap.size, _, e, grownCap w (len + m) cap e, ?_, heap_alloc_new w.drew _, ?_, hge, hle, ?_, .inr rfl, rfl, rfl, rfl, by simp, fun k hk _ => heap_alloc_old w.drew _ k hk⟩
      · simp [Builtin.append_, run_underlying hu, run_sizeOf hs, sizeOf, typeInfo, zeroValue, hit, hs', hz', hx.lenOf, hn, h63', h48', Question.forced, hx.first w.drew rfl, hfo w.drew rfl, newRow, grownCap]
        congr 2
        apply Array.ext'
        simp
      · simp only [Array.size_append, List.size_toArray, size_zeroCells, hzs, hlen1, hx.len, ← Nat.add_mul]
        congr 1
        omega
      · simp only [Array.toList_append, List.append_assoc]
        rw [← List.append_assoc, Nat.add_mul, List.take_left' (by simp [hlen1, hx.len])]

/-- append to nil. -/
theorem run_append_nil_fw {t ty e : TypeId} {s m : Nat} {z : Value} (ht : elemT P t = some e) (hs : szT P e = some s) (hz : zeroT P e = some z) (hzs : z.cells.size = s) (hsp : 0 < s)
    {xv : Value} {news : List Value} (hx : Source P w s m xv news) (hb : m * bytesT P e ≤ 140737488355328) (hm : m ≤ maxLen) (hm0 : m ≠ 0) :
    ∃ cur' cap', (Builtin.append_ #[t, t] ty #[.slice none 0 0, xv]).run P w = .ok (.slice (some ⟨w.heap.size, 0, none⟩) m cap') (w.drew.alloc (.cells cur' e)) ∧
      cur'.size = cap' * s ∧ m ≤ cap' ∧ cap' ≤ maxLen ∧ cur'.toList.take (m * s) = news := by
  have hu := elemT_inv ht
  have hs' := hs
  have hz' := hz
  unfold szT at hs'
  unfold zeroT at hz'
  cases hit : P.info? e with
  | none => simp [hit] at hs'
  | some it =>
    simp only [hit, Option.map_some, Option.some.injEq] at hs'
    simp only [hit, Option.bind_some] at hz'
    rw [bytesT_info hit] at hb
    have hmi : ((m : Nat) : Int) ≤ 9223372036854775807 := by simp [maxLen] at hm; omega
    have h63' : ¬ (9223372036854775807 < (m : Int)) := by omega
    have hfits := growslice_fits (need := m) (old := 0) (bytes := it.bytes) (by omega) hb
    have h48' : ¬ (281474976710656 < Builtin.nextslicecap m 0 * it.bytes) := by omega
    have hge := grownCap_ge w m 0 e
    have hle := grownCap_le_maxLen w m 0 e hm
    refine ⟨news.toArray ++ Builtin.zeroCells z.cells (grownCap w m 0 e - m), grownCap w m 0 e, ?_, ?_, hge, hle, ?_⟩
    · have hn : ¬ (m = 0) := hm0
      simp [Builtin.append_, run_underlying hu, run_sizeOf hs, sizeOf, typeInfo, zeroValue, hit, hs', hz', hx.lenOf, hn, h63', h48', Question.forced, hx.first w.drew rfl, newRow, grownCap, run_firstCells_none]
    · simp only [Array.size_append, List.size_toArray, size_zeroCells, hzs, hx.len, ← Nat.add_mul]
      congr 1
      omega
    · simp only [Array.toList_append]
      rw [← hx.len, List.take_left' (by simp)]
theorem run_append_nil0 {t ty e : TypeId} {s : Nat} (ht : elemT P t = some e) (hs : szT P e = some s) {xv : Value} {news : List Value} (hx : Source P w s 0 xv news) :
    (Builtin.append_ #[t, t] ty #[.slice none 0 0, xv]).run P w = .ok (.slice none 0 0) w := by
  have hu := elemT_inv ht
  have hn : news = [] := List.eq_nil_of_length_eq_zero (by have := hx.len; omega)
  subst hn
  simp [Builtin.append_, run_underlying hu, run_sizeOf hs, hx.lenOf, hx.first w rfl]

/-- The elements that stand behind a slice's temporary. -/
def elemsA (S : State) : A → Option (List A)
  | .nil => some []
  | .sl false _ xs => some xs
  | .vw r off len => (rowAt S.rows r).map fun row => (row.xs.drop off).take len
  | _ => none
/-- They are of n cells. -/
def nA (S : State) : A → Option Nat
  | .sl false n _ => some n
  | .vw r _ _ => (rowAt S.rows r).map (·.n)
  | _ => none
theorem source_ok (hi : Inv E G gs S tmps w) {x : A} {v : Value} (hx : TRel w G S.rows gs x v []) {xs : List A} {s : Nat} (he : elemsA S x = some xs) (hn : x = .nil ∨ nA S x = some s)
    (hno : ∀ y ∈ xs, noOwn y = true) (hlk : ∀ r off len row, x = .vw r off len → rowAt S.rows r = some row → row.lk = false) (hok : ∀ c ∈ flat xs, okCell c = true) :
    ∃ news, Source P w s xs.length v news ∧ RelL w G (flat xs) news [] ∧ ∀ y ∈ xs, y.width = s := by
  have hall : (flat xs).all noOwn = true := List.all_eq_true.2 fun c hc => by
    obtain ⟨y, hy, hc⟩ := List.mem_flatMap.1 hc
    have := hno y hy
    cases y <;> simp [A.cells] at hc <;> try (subst hc; exact this)
    rw [noOwn_agg] at this
    exact List.all_eq_true.1 this c hc
  have mk : ∀ (b k cap : Nat) (cur : Array Value) (e : TypeId) (fr : Nat × Nat), v = .slice (some ⟨b, k, none⟩) xs.length cap → w.heap[b]? = some (.cells cur e fr) → (∀ y ∈ xs, y.width = s) →
      RelL w G (flat xs) ((cur.toList.drop k).take (xs.length * s)) [] → ∃ news, Source P w s xs.length v news ∧ RelL w G (flat xs) news [] ∧ ∀ y ∈ xs, y.width = s := by
    intro b k cap cur e fr hv hh hw hl
    have hlen : ((cur.toList.drop k).take (xs.length * s)).length = xs.length * s := by rw [hl.length, flat_length hw]
    refine ⟨_, ⟨hlen, fun w' => ?_, fun w' hw' => ?_, okCells_v (TRelL.of (rows := []) (gs := gs) hl) (List.all_eq_true.2 hok)⟩, hl, hw⟩
    · rw [hv]; simp [Builtin.lenOf]
    · rw [hv]
      exact run_firstCells_some (P := P) w' s _ ⟨b, k, none⟩ _ cap _ hlen (fun j u hu => by
        rw [add_none, cell_at (w := w') (by rw [hw']; exact hh)]
        have hj : j < xs.length * s := by
          rcases Nat.lt_or_ge j (xs.length * s) with h | h
          · exact h
          · rw [List.getElem?_take_eq_none h] at hu; simp at hu
        rw [List.getElem?_take_of_lt hj, List.getElem?_drop] at hu
        simpa using hu)
  have mkn : (∃ oa, v = .slice oa 0 0) → xs = [] → ∃ news, Source P w s xs.length v news ∧ RelL w G (flat xs) news [] ∧ ∀ y ∈ xs, y.width = s := by
    rintro ⟨oa, hv⟩ hxs
    subst hxs
    refine ⟨[], ⟨by simp, fun w' => by rw [hv]; simp [Builtin.lenOf], fun w' _ => by rw [hv]; cases oa <;> simp [Builtin.firstCells, loadCells, loadCellsFrom], by simp⟩, .nil, by simp⟩
  cases x <;> simp [elemsA] at he
  case nil =>
    subst he
    refine mkn ⟨none, ?_⟩ rfl
    cases hx with | of h => cases h; rfl
  case sl o n ys =>
    cases o <;> simp [elemsA] at he
    subst he
    simp only [reduceCtorEq, nA, Option.some.injEq, false_or] at hn
    subst hn
    rcases slf_inv hx with ⟨hv, hxs⟩ | ⟨b, k, cap, cur, e, fr, hv, hh, hg, hw, hl, hcap, hm⟩
    · exact mkn hv hxs
    · exact mk b k cap cur e fr hv hh hw hl
  case vw r off len =>
    obtain ⟨row, hr, rfl⟩ := he
    simp only [reduceCtorEq, nA, hr, Option.map_some, Option.some.injEq, false_or] at hn
    subst hn
    rcases vw_inv hx with ⟨row', k, cap, cur, e, b, hr', hob, g1, g2, g3, g4, g5, g6, hv⟩ | ⟨row', hr', hob, hxs, rfl, rfl, hv⟩
    · rw [hr] at hr'
      obtain rfl := Option.some.inj hr'
      have hrr := hi.row r row hr
      rw [hob] at hrr
      obtain ⟨cur', e', cap', h1, h2, h3, h4, h5, h6, h7⟩ := hrr.ex
      rw [g2] at h1
      simp only [Option.some.injEq, Obj.cells.injEq] at h1
      obtain ⟨rfl, rfl, _⟩ := h1
      have hw : ∀ y ∈ (row.xs.drop off).take len, y.width = row.n := fun y hy => h5 y (List.mem_of_mem_drop (List.mem_of_mem_take hy))
      have hlen : ((row.xs.drop off).take len).length = len := by simp; omega
      have hlk' := hlk r off len row rfl hr
      unfold CellsRel at h7
      rw [if_neg (by simp [hlk'])] at h7
      obtain ⟨F1, F2, e1, _, k2⟩ := h7.take_ (off * row.n)
      obtain ⟨F3, F4, e2, k3, _⟩ := k2.take_ (len * row.n)
      rw [flat_drop off h5, flat_take len (fun y hy => h5 y (List.mem_of_mem_drop hy))] at k3
      have hF := k3.noOwn hall
      subst hF
      have hle : (off + len) * row.n ≤ row.xs.length * row.n := Nat.mul_le_mul_right _ g1
      rw [Nat.add_mul] at hle
      rw [List.drop_take, List.take_take, Nat.min_eq_left (by omega)] at k3
      have hk : k = off * row.n ∨ len = 0 := by rcases g6 with h | h <;> omega
      rcases hk with rfl | h0
      · exact mk b _ (cap - off) cur e (0, 0) (by rw [hlen]; exact hv) g2 hw (by rw [hlen]; exact k3)
      · exact mk b k (cap - off) cur e (0, 0) (by rw [hlen]; exact hv) g2 hw (by
          rw [hlen]
          subst h0
          simpa using k3)
    · rw [hr] at hr'
      obtain rfl := Option.some.inj hr'
      exact mkn ⟨none, hv⟩ (by simp)
end
end Go.Fw

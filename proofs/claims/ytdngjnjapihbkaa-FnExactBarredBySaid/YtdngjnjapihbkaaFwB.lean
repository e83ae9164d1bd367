/- Conversions. Plain theorems, no condition. -/
import Derived.Test.YtdngjnjapihbkaaFw16
set_option linter.unusedVariables false
set_option linter.unusedSimpArgs false
namespace Go.Fw
/-- A byte, as an element. -/
def byteA (c : UInt8) : A := .sc (.int .u8 (c.toNat : Int))
section
variable {P : Program} {E : Env} {G : Nat → Prop} {gs : Gh} {S : State} {a : Act} {w : World} {o : Oper}

theorem under_of_agg {t : TypeId} {b : Bool} (h : aggT P t = some b) : ∃ d, P.underlying t = some d := by
  unfold aggT at h
  rw [Option.map_eq_some_iff] at h
  obtain ⟨d, hd, _⟩ := h
  exact ⟨d, hd⟩
theorem VOK_convI {src dst : TypeId} {x : Operand} {b : Bool} {k kk : IntKind} {n : Int} (ho : o.op = .convert src dst x) (hs : aggT P src = some b) (hd : kindT P dst = some kk) (he : ev S x = .sc (.int k n)) :
    VOK P o S (.sc (.int kk (kk.wrap n))) := by
  intro E G gs a w hi
  have h1 := ev_rel hi x rfl
  rw [he] at h1
  have hv := (sc_inv h1).1
  obtain ⟨d, hu⟩ := under_of_agg hs
  have hu2 : P.underlying dst = some (.int kk) := by
    unfold kindT at hd
    split at hd
    · rename_i hh; cases hd; exact hh
    · simp at hd
  refine ⟨.int kk (kk.wrap n), fun w' hw' => ?_, .of (.sc rfl)⟩
  simp [execOp, ho, convert, run_underlying hu, run_underlying hu2, hv, Conv.intToInt]
theorem VOK_convS {src dst : TypeId} {x : Operand} {s : ByteArray} (ho : o.op = .convert src dst x) (hs : isStrT P src = true) (hd : isStrT P dst = true) (he : ev S x = .sc (.string s)) :
    VOK P o S (.sc (.string s)) := by
  intro E G gs a w hi
  have h1 := ev_rel hi x rfl
  rw [he] at h1
  have hv := (sc_inv h1).1
  have hu : ∀ t, isStrT P t = true → P.underlying t = some .string := fun t h => by
    unfold isStrT at h
    split at h
    · assumption
    · simp at h
  refine ⟨.string s, fun w' hw' => ?_, .of (.sc rfl)⟩
  simp [execOp, ho, convert, run_underlying (hu _ hs), run_underlying (hu _ hd), hv]
theorem push_fold : ∀ (ns : List UInt8) (s : ByteArray), (ns.map fun c : UInt8 => (c.toNat : Int)).foldl (fun r n => r.push (UInt8.ofNat n.toNat)) s = mkS (bs s ++ ns)
  | [], s => by simp [mkS_bs]
  | c :: ns, s => by
    simp only [List.map_cons, List.foldl_cons, Int.toNat_natCast, UInt8.ofNat_toNat]
    rw [push_fold ns]
    congr 1
    simp [bs, ByteArray.push]
theorem bytes_vals {G : Nat → Prop} {w : World} : ∀ {ns : List UInt8} {cs : List Value}, RelL w G (ns.map byteA) cs [] → cs = (ns.map fun c : UInt8 => (c.toNat : Int)).map (Value.int .u8)
  | ns, cs, h => by
    generalize hx : ns.map byteA = xs at h
    generalize hF : ([] : List Nat) = F at h
    cases h with
    | nil => have : ns = [] := by simpa using hx
             subst this; rfl
    | cons h hl =>
      rename_i x v F xs vs Fs
      have hF' : F = [] ∧ Fs = [] := by simpa using hF.symm
      obtain ⟨rfl, rfl⟩ := hF'
      cases ns with
      | nil => simp at hx
      | cons c ns =>
        simp only [List.map_cons, List.cons.injEq] at hx
        obtain ⟨hx1, hx2⟩ := hx
        subst hx2
        have := bytes_vals hl
        subst hx1
        cases h
        rw [this]; rfl
theorem flat_bytes (ns : List UInt8) : flat (ns.map byteA) = ns.map byteA := by
  induction ns with
  | nil => rfl
  | cons c ns ih => rw [List.map_cons, flat_cons, ih]; rfl
/-- string(b). -/
theorem VOK_bytesStr {src dst e : TypeId} {x : Operand} {ns : List UInt8} (ho : o.op = .convert src dst x) (hs : elemT P src = some e) (hk : kindT P e = some .u8) (hd : isStrT P dst = true)
    (hx : ∀ (E : Env) (G : Nat → Prop) (gs : Gh) (a : Act) (w : World), Inv E G gs S a.tmps w → (ns = [] ∧ ∃ oa c, a.eval x = .slice oa 0 c) ∨ ∃ b k cap cur et fr, a.eval x = .slice (some ⟨b, k, none⟩) ns.length cap ∧ w.heap[b]? = some (.cells cur et fr) ∧
      ∃ G, RelL w G (ns.map byteA) ((cur.toList.drop k).take ns.length) []) : VOK P o S (.sc (.string (mkS ns))) := by
  intro E G gs a w hi
  have hu := elemT_inv hs
  have hu2 : P.underlying e = some (.int .u8) := by
    unfold kindT at hk
    split at hk
    · rename_i hh; cases hk; exact hh
    · simp at hk
  have hu3 : P.underlying dst = some .string := by
    unfold isStrT at hd
    split at hd
    · assumption
    · simp at hd
  rcases hx E G gs a w hi with ⟨rfl, oa, c, hv⟩ | ⟨b, k, cap, cur, et, fr, hv, hh, G', hrel⟩
  · refine ⟨.string (mkS []), fun w' hw' => ?_, .of (.sc rfl)⟩
    simp only [execOp, ho, hv, Sem.run_bind, run_convert_bytes_string w' src dst e oa 0 c hu hu2 hu3]
    cases oa <;> (simp [Conv.bytesToString, loadCells, loadCellsFrom]; rfl)
  · refine ⟨.string (mkS ns), fun w' hw' => ?_, .of (.sc rfl)⟩
    have hcs := bytes_vals hrel
    have hl := hrel.length
    rw [List.length_map] at hl
    have hload : (loadCells ⟨b, k, none⟩ ns.length).run P w' = .ok ((ns.map fun c : UInt8 => (c.toNat : Int)).map (Value.int .u8)).toArray w' := by
      rw [← hcs]
      generalize hcc : (cur.toList.drop k).take ns.length = cc at hl
      rw [← hl]
      refine run_loadCells_list w' _ _ fun j v hj => ?_
      rw [← hcc] at hj hl
      rw [add_none, cell_at (keep_at hw' hh)]
      have hjl := (List.getElem?_eq_some_iff.1 hj).1
      rw [hl] at hjl
      rw [List.getElem?_take_of_lt hjl, List.getElem?_drop] at hj
      simpa using hj
    simp only [execOp, ho, hv, Sem.run_bind, run_convert_bytes_string w' src dst e _ _ cap hu hu2 hu3, run_bytesToString w' _ _ cap _ hload, push_fold]
    simp
    rfl
theorem VOK_bytesStr_vw {src dst e : TypeId} {x : Operand} {ns : List UInt8} {r off len : Nat} {row : Row} (ho : o.op = .convert src dst x) (hs : elemT P src = some e) (hk : kindT P e = some .u8) (hd : isStrT P dst = true)
    (he : ev S x = .vw r off len) (hr : rowAt S.rows r = some row) (hn : row.n = 1) (hl : off + len ≤ row.xs.length) (hns : (row.xs.drop off).take len = ns.map byteA) : VOK P o S (.sc (.string (mkS ns))) := by
  refine VOK_bytesStr ho hs hk hd fun E G gs a w hi => ?_
  have h1 := ev_rel hi x rfl
  rw [he] at h1
  have hlen : ns.length = len := by
    have := congrArg List.length hns
    simp at this; omega
  rcases vw_inv h1 with ⟨row', k, cap, cur, et, b, hr', hob, g1, g2, g3, g4, g5, g6, hv⟩ | ⟨row', hr', hob, hx0, rfl, rfl, hv⟩
  · rw [hr] at hr'
    obtain rfl := Option.some.inj hr'
    rw [← hlen] at hv
    have hrr := hi.row r row hr
    rw [hob] at hrr
    obtain ⟨cur', e', cap', h1, h2, h3, h4, h5, h6, h7⟩ := hrr.ex
    rw [g2] at h1
    simp only [Option.some.injEq, Obj.cells.injEq] at h1
    obtain ⟨rfl, rfl, _⟩ := h1
    have hz : ∀ {F : List Nat}, (CellsRel row.lk w G S.rows gs (flat row.xs) (cur.toList.take (row.xs.length * row.n)) F) → RelL w G (ns.map byteA) ((cur.toList.drop (off * row.n)).take ns.length) [] := fun {F} h7 => by
      obtain ⟨F1, F2, e1, _, k2⟩ := h7.t.take_ (off * row.n)
      obtain ⟨F3, F4, e2, k3, _⟩ := k2.take_ (len * row.n)
      rw [flat_drop off h5, flat_take len (fun y hy => h5 y (List.mem_of_mem_drop hy)), hns, flat_bytes] at k3
      have hle : (off + len) * row.n ≤ row.xs.length * row.n := Nat.mul_le_mul_right _ g1
      rw [Nat.add_mul] at hle
      rw [List.drop_take, List.take_take, Nat.min_eq_left (by omega)] at k3
      have hd : (ns.map byteA).all isData = true := by
        rw [List.all_eq_true]; intro y hy; obtain ⟨c, _, rfl⟩ := List.mem_map.1 hy; exact isData_sc _
      have hno : (ns.map byteA).all noOwn = true := by
        rw [List.all_eq_true]; intro y hy; obtain ⟨c, _, rfl⟩ := List.mem_map.1 hy; exact noOwn_sc _
      have k4 := k3.data hd
      rw [k4.noOwn hno] at k4
      rw [hlen]
      rw [hn] at k4 ⊢
      simpa only [Nat.mul_one] using k4
    rcases g6 with g6 | g6
    · exact .inr ⟨b, k, cap - off, cur, _, _, hv, g2, G, by rw [g6]; exact hz h7⟩
    · have h0 : len = 0 := by omega
      subst h0
      have : ns = [] := List.eq_nil_of_length_eq_zero hlen
      subst this
      exact .inr ⟨b, k, cap - off, cur, _, _, hv, g2, G, by simpa using RelL.nil⟩
  · have : ns = [] := List.eq_nil_of_length_eq_zero hlen
    exact .inl ⟨this, none, 0, hv⟩
theorem VOK_bytesStr_sl {src dst e : TypeId} {x : Operand} {ns : List UInt8} {n : Nat} {xs : List A} (ho : o.op = .convert src dst x) (hs : elemT P src = some e) (hk : kindT P e = some .u8) (hd : isStrT P dst = true)
    (he : ev S x = .sl false n xs) (hn : n = 1) (hns : xs = ns.map byteA) : VOK P o S (.sc (.string (mkS ns))) := by
  refine VOK_bytesStr ho hs hk hd fun E G gs a w hi => ?_
  have h1 := ev_rel hi x rfl
  rw [he] at h1
  subst hn
  rcases slf_inv h1 with ⟨⟨oa, hv⟩, h0⟩ | ⟨b, k, cap, cur, et, fr, hv, hh, hg, hw, hrel, hcap, hm⟩
  · rw [hns] at h0
    exact .inl ⟨by simpa using h0, oa, 0, hv⟩
  · subst hns
    rw [List.length_map, Nat.mul_one, flat_bytes] at hrel
    rw [List.length_map] at hv
    exact .inr ⟨b, k, cap, cur, et, fr, hv, hh, G, hrel⟩
end
end Go.Fw

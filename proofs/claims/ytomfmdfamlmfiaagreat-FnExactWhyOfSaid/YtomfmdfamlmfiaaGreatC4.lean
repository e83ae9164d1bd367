/- Sets with a code. Plain theorems. -/
import Derived.Test.YtomfmdfamlmfiaaGreatC3
import Derived.OrdersHeld
set_option linter.unusedVariables false
set_option linter.unusedSimpArgs false
namespace Go.Proofs.YtomfmdfamlmfiaaGreat
open Go Go.Fw
set_option maxRecDepth 100000
def Pck.zero : Pck := ⟨[], Ver.zero, 0, [], [], []⟩
def pk (c : List Pck) (k : Int) : Pck := c.getD k.toNat Pck.zero
theorem pk_at {c : List Pck} {k : Int} (h : inB k 0 ((c.length : Int) - 1) = true) : 0 ≤ k ∧ k.toNat < c.length ∧ c[k.toNat]? = some (pk c k) ∧ pk c k ∈ c := by
  unfold inB at h
  simp only [Bool.and_eq_true, decide_eq_true_eq] at h
  have hk : k.toNat < c.length := by omega
  refine ⟨h.1, hk, ?_, ?_⟩
  · rw [pk, List.getD_eq_getElem?_getD, List.getElem?_eq_getElem hk]; rfl
  · rw [pk, List.getD_eq_getElem?_getD, List.getElem?_eq_getElem hk]; exact List.getElem_mem hk
theorem setF_in {c : List Pck} {s : List Int} (h : setF c s = 0) : ∀ k ∈ s, inB k 0 ((c.length : Int) - 1) = true := by
  unfold setF at h
  split at h
  · rename_i h0; exact absurd h h0
  · split at h
    · rename_i h1
      rw [setOk_eq, Bool.and_eq_true] at h1
      exact List.all_eq_true.1 h1.2
    · simp at h
end Go.Proofs.YtomfmdfamlmfiaaGreat

/- Helpers of the walks. Plain theorems. -/
set_option linter.unusedVariables false
set_option linter.unusedSimpArgs false
namespace Go.Proofs.YtomfmdfamlmfiaaGreat
open Go Go.Fw
set_option maxRecDepth 100000
def fill {α : Type} (f : α → A) (z : A) (cs : List α) (i : Nat) : List A := (cs.take i).map f ++ List.replicate (cs.length - i) z
theorem fill_set {α : Type} {f : α → A} {z : A} {cs : List α} {i : Nat} {c : α} (hc : cs[i]? = some c) : (fill f z cs i).set i (f c) = fill f z cs (i + 1) := by
  have hi : i < cs.length := (List.getElem?_eq_some_iff.1 hc).1
  unfold fill
  rw [List.take_add_one, hc, List.map_append, List.set_append]
  have e : cs.length - i = (cs.length - (i + 1)) + 1 := by omega
  simp [e, List.replicate_succ, Nat.min_eq_left (Nat.le_of_lt hi)]
theorem fill_length {α : Type} {f : α → A} {z : A} {cs : List α} {i : Nat} (hi : i ≤ cs.length) : (fill f z cs i).length = cs.length := by simp [fill]; omega
theorem fill_all {α : Type} {f : α → A} {z : A} {cs : List α} {i : Nat} {p : A → Prop} (h1 : ∀ c, p (f c)) (h2 : p z) : ∀ y ∈ fill f z cs i, p y := by
  intro y hy
  rcases List.mem_append.1 hy with hy | hy
  · obtain ⟨c, _, rfl⟩ := List.mem_map.1 hy; exact h1 c
  · rw [(List.mem_replicate.1 hy).2]; exact h2
theorem fill_zero {α : Type} {f : α → A} {z : A} {cs : List α} : fill f z cs 0 = List.replicate cs.length z := by simp [fill]
theorem fill_full {α : Type} {f : α → A} {z : A} {cs : List α} : fill f z cs cs.length = cs.map f := by simp [fill]
theorem roFAll {n : Nat} {xs : List A} (h : ∀ x ∈ xs, roFree x = true) : roFree (.sl true n xs) = true := by rw [roFree_sl, Bool.true_and, List.all_eq_true]; exact h
theorem roFTs (l : List Trm) : roFree (encTs true l) = true := roFAll fun x hx => by obtain ⟨c, _, rfl⟩ := List.mem_map.1 hx; rfl
theorem roFP (o : Pck) : roFree (o.enc true) = true := by
  show roFree (.agg _) = true
  rw [roFree_agg]
  have h1 : roFree (.sl true 1 (o.p.map str)) = true := roFAll fun x hx => by obtain ⟨c, _, rfl⟩ := List.mem_map.1 hx; rfl
  have h2 : roFree (.sl true 1 (o.d.map (encTs true))) = true := roFAll fun x hx => by obtain ⟨c, _, rfl⟩ := List.mem_map.1 hx; exact roFTs c
  have h3 : roFree (.sl true 7 (o.b.map Trm.enc)) = true := roFTs o.b
  simp only [Pck.cells, List.all_cons, List.all_nil, h1, h2, h3]
  rfl
theorem roFPs (l : List Pck) : roFree (.sl true 8 (l.map (Pck.enc true))) = true := roFAll fun x hx => by obtain ⟨c, _, rfl⟩ := List.mem_map.1 hx; exact roFP c
theorem enc_own (o : Pck) : ∃ ps ds bs, o.enc true = .agg [str o.n, i64 o.v.a, i64 o.v.b, i64 o.v.c, i64 o.s, .sl true 1 ps, .sl true 1 ds, .sl true 7 bs] ∧ ps = o.p.map str ∧ ds = o.d.map (encTs true) ∧ bs = o.b.map Trm.enc := ⟨_, _, _, rfl, rfl, rfl, rfl⟩
theorem addV {Ω : Opq} (hΩ : Ω = std) {y : Int} (h0 : 0 ≤ y) (h1 : y ≤ 4611686018427387904) : Ω.ar .add .i64 y 1 = y + 1 := by subst hΩ; exact wrap64 (by omega) (by omega)
theorem fitsE {k : Nat} {a b : List A} (h : a = b) : fitA.fitL k a b := h ▸ fits a
theorem addV7 {Ω : Opq} (hΩ : Ω = std) {y : Int} (h0 : 0 ≤ y) (h1 : y ≤ 4611686018427387800) :
    Ω.ar .add .i64 (Ω.ar .add .i64 (Ω.ar .add .i64 (Ω.ar .add .i64 (Ω.ar .add .i64 (Ω.ar .add .i64 (Ω.ar .add .i64 y 1) 1) 1) 1) 1) 1) 1 = y + 7 := by
  have e := fun z h0 h1 => addV hΩ (y := z) h0 h1
  rw [e y h0 (by omega), e (y + 1) (by omega) (by omega), e (y + 1 + 1) (by omega) (by omega), e (y + 1 + 1 + 1) (by omega) (by omega), e (y + 1 + 1 + 1 + 1) (by omega) (by omega), e (y + 1 + 1 + 1 + 1 + 1) (by omega) (by omega), e (y + 1 + 1 + 1 + 1 + 1 + 1) (by omega) (by omega)]
  omega
theorem addV5 {Ω : Opq} (hΩ : Ω = std) {y : Int} (h0 : 0 ≤ y) (h1 : y ≤ 4611686018427387800) :
    Ω.ar .add .i64 (Ω.ar .add .i64 (Ω.ar .add .i64 (Ω.ar .add .i64 (Ω.ar .add .i64 y 1) 1) 1) 1) 1 = y + 5 := by
  have e := fun z h0 h1 => addV hΩ (y := z) h0 h1
  rw [e y h0 (by omega), e (y + 1) (by omega) (by omega), e (y + 1 + 1) (by omega) (by omega), e (y + 1 + 1 + 1) (by omega) (by omega), e (y + 1 + 1 + 1 + 1) (by omega) (by omega)]
  omega
/-- ys is xs but for what stands up to i. -/
structure Like (xs : List A) (i : Nat) (ys : List A) : Prop where
  len : ys.length = xs.length
  at' : ∀ q, i < q → ys[q]? = xs[q]?
theorem Like.set {Ω : Opq} (hΩ : Ω = std) {xs ys : List A} {i : Nat} {z : A} (h : Like xs i ys) : Like xs i (Ω.set ys (Ω.plus 0 (Ω.nat (Ω.int i))) z) := by
  subst hΩ
  show Like xs i (ys.set (0 + i) z)
  rw [Nat.zero_add]
  exact ⟨by simpa using h.len, fun q hq => by rw [List.getElem?_set_ne (by omega)]; exact h.at' q hq⟩
def psum {α : Type} (f : α → Nat) (d : List α) (i : Nat) : Nat := ((d.take i).map f).sum
theorem psum_at {α : Type} {f : α → Nat} {d : List α} {i : Nat} {c : α} (h : d[i]? = some c) : psum f d (i + 1) = psum f d i + f c := by
  unfold psum
  rw [List.take_add_one, h, List.map_append, List.sum_append]
  simp
theorem psum_zero {α : Type} {f : α → Nat} {d : List α} : psum f d 0 = 0 := by simp [psum]
theorem psum_const {α : Type} (m : Nat) (d : List α) : psum (fun _ => m) d d.length = m * d.length := by
  unfold psum
  rw [List.take_length]
  induction d with
  | nil => rfl
  | cons x d ih => simp only [List.map_cons, List.sum_cons, List.length_cons, ih]; rw [Nat.mul_succ]; omega
theorem setNA {Ω : Opq} (hΩ : Ω = std) {ys : List A} {j : Nat} {z : A} (h : ∀ y ∈ ys, vStore.isAggA y = false) (hz : vStore.isAggA z = false) : ∀ y ∈ Ω.set ys j z, vStore.isAggA y = false := by
  subst hΩ
  intro y hy
  rcases List.mem_or_eq_of_mem_set hy with hy | rfl
  · exact h y hy
  · exact hz
theorem psum_le {α : Type} {f : α → Nat} {d : List α} : ∀ (i : Nat), psum f d i ≤ psum f d d.length := by
  intro i
  unfold psum
  rw [List.take_length]
  conv => rhs; rw [← List.take_append_drop i d, List.map_append, List.sum_append]
  omega
theorem neSame {Ω : Opq} (hΩ : Ω = std) {x y : Int} (h : Ω.cmp .neq x y = true) (e : x = y) : False := by subst hΩ; exact ne_t h e
theorem mutVw {S : State} {r len n : Nat} {ys zs : List A} (hr : Fw.rowAt S.rows r = some ⟨n, ys, false⟩) (hl : len = ys.length) (hl' : zs.length = ys.length) : Mut S (.vw r 0 len) (.sl true n ys) (.sl true n zs) [(r, zs)] := .row hr rfl hl hl'
theorem rdJ {Ω : Opq} (hΩ : Ω = std) {i : Nat} {xs : List A} {z : A} (h : xs[i]? = some z) : xs[(Ω.int i).toNat]? = some z := by subst hΩ; exact h
theorem takeI {Ω : Opq} (hΩ : Ω = std) {i : Nat} {xs : List A} (h : xs.length = i) : Ω.take i xs = xs := by subst hΩ; subst h; exact List.take_length
/-- The marks from k on. -/
def marksI (k : Int) (n : Nat) : List A := (List.range n).map fun i : Nat => i64 (k + i)
theorem marksI_at {k : Int} {n i : Nat} (h : i < n) : (marksI k n)[i]? = some (i64 (k + i)) := by
  unfold marksI
  rw [List.getElem?_map, List.getElem?_range h]; rfl
theorem marksI_length (k : Int) (n : Nat) : (marksI k n).length = n := by simp [marksI]
theorem marksI_frz (k : Int) (n : Nat) : (marksI k n).map frz = marksI k n := by
  unfold marksI
  rw [List.map_map]; exact List.map_congr_left fun c _ => rfl
theorem marksI_na (k : Int) (n : Nat) : ∀ y ∈ marksI k n, vStore.isAggA y = false := fun y hy => by
  obtain ⟨c, _, rfl⟩ := List.mem_map.1 hy; rfl
/-- The first i ones are marked. -/
def halfA (ms xs : List A) (i : Nat) : List A := ms.take i ++ xs.drop i
theorem halfA_set {ms xs : List A} {i : Nat} {m : A} (hl : ms.length = xs.length) (h : ms[i]? = some m) : (halfA ms xs i).set i m = halfA ms xs (i + 1) := by
  have hi := (List.getElem?_eq_some_iff.1 h).1
  unfold halfA
  rw [List.take_add_one, h, List.set_append]
  have e : xs.drop i = xs[i] :: xs.drop (i + 1) := List.drop_eq_getElem_cons (by omega)
  rw [e]
  simp only [List.length_take, Nat.min_eq_left (Nat.le_of_lt hi), Nat.lt_irrefl, if_false, Nat.sub_self, List.set_cons_zero]
  simp
theorem halfA_length {ms xs : List A} {i : Nat} (hl : ms.length = xs.length) (hi : i ≤ xs.length) : (halfA ms xs i).length = xs.length := by simp [halfA]; omega
theorem halfA_na {ms xs : List A} {i : Nat} (h1 : ∀ y ∈ ms, vStore.isAggA y = false) (h2 : ∀ y ∈ xs, vStore.isAggA y = false) : ∀ y ∈ halfA ms xs i, vStore.isAggA y = false := fun y hy => by
  rcases List.mem_append.1 hy with h | h
  · exact h1 y (List.mem_of_mem_take h)
  · exact h2 y (List.mem_of_mem_drop h)
theorem ro_vw {S : State} {k r len n : Nat} {ys zs : List A} (hr : Fw.rowAt S.rows r = some ⟨n, ys, false⟩) (hl : len = ys.length) (hf : ys.map frz = zs) : roO S (k + 1) (.vw r 0 len) = some (.sl false n zs) := by
  simp only [roO, hr]
  rw [hl, List.drop_zero, List.take_length, hf]
  rfl
theorem mapO2 {f : A → Option A} {x x' y y' : A} (h : f x = some x') (h2 : f y = some y') : mapO f [x, y] = some [x', y'] := by simp [mapO, h, h2]
theorem frz_Pck (o : Pck) : frz (o.enc true) = o.enc false := by
  show frz (.agg _) = A.agg _
  rw [frz_agg]
  have h1 : (o.p.map str).map frz = o.p.map str := by rw [List.map_map]; exact List.map_congr_left fun c _ => rfl
  have h2 : (o.d.map (encTs true)).map frz = o.d.map (encTs false) := by
    rw [List.map_map]
    refine List.map_congr_left fun c _ => ?_
    show frz (A.sl true 7 _) = A.sl false 7 _
    rw [frz_sl, List.map_map]; rfl
  have h3 : (o.b.map Trm.enc).map frz = o.b.map Trm.enc := by rw [List.map_map]; exact List.map_congr_left fun c _ => rfl
  simp only [Pck.cells, List.map_cons, List.map_nil, frz_sl, h1, h2, h3]
  rfl
theorem frz_Pcks (l : List Pck) : (l.map (Pck.enc true)).map frz = l.map (Pck.enc false) := by rw [List.map_map]; exact List.map_congr_left fun c _ => frz_Pck c
theorem frz_I (l : List Int) : (l.map i64).map frz = l.map i64 := by rw [List.map_map]; exact List.map_congr_left fun c _ => rfl
theorem roF_I (l : List Int) : roFree (.sl true 1 (l.map i64)) = true := roFAll fun x hx => by obtain ⟨c, _, rfl⟩ := List.mem_map.1 hx; rfl
end Go.Proofs.YtomfmdfamlmfiaaGreat

/- Walks: sizes of packages. Plain theorems. -/
set_option linter.unusedVariables false
set_option linter.unusedSimpArgs false
namespace Go.Proofs.YtomfmdfamlmfiaaGreat
open Go Go.Fw
set_option maxRecDepth 100000
def szN (n : Nat) (l : Int) : Int := if l - n < 0 then -1 else l - n
def szT (t : Trm) (l : Int) : Int := szN t.n.length l
def szB (s : List UInt8) (l : Int) : Int := szN s.length l
def szP (o : Pck) (l : Int) : Int :=
  if szN o.n.length l < 0 then -1 else if szS szB o.p (szN o.n.length l) < 0 then -1 else
  if szS (szS szT) o.d (szS szB o.p (szN o.n.length l)) < 0 then -1 else
  if szS szT o.b (szS (szS szT) o.d (szS szB o.p (szN o.n.length l))) < 0 then -1 else szS szT o.b (szS (szS szT) o.d (szS szB o.p (szN o.n.length l)))
/-- What can stand in memory. -/
structure Pck.Fit (o : Pck) : Prop where
  n : o.n.length ≤ maxLen
  p : o.p.length ≤ maxLen ∧ ∀ s ∈ o.p, s.length ≤ maxLen
  d : o.d.length ≤ maxLen ∧ ∀ l ∈ o.d, l.length ≤ maxLen ∧ ∀ t ∈ l, t.n.length ≤ maxLen
  b : o.b.length ≤ maxLen ∧ ∀ t ∈ o.b, t.n.length ≤ maxLen
/-- f takes the cost g, or says -1. -/
def Costs {α : Type} (f : α → Int → Int) (g : α → Nat) : Prop := ∀ c l, f c l = if l - g c < 0 then -1 else l - g c
def costS {α : Type} (g : α → Nat) (cs : List α) : Nat := cs.length + (cs.map g).sum
theorem szLoop_cost {α : Type} {f : α → Int → Int} {g : α → Nat} (h : Costs f g) : ∀ (cs : List α) (l : Int), 0 ≤ l → szLoop f cs l = if l - (cs.map g).sum < 0 then -1 else l - (cs.map g).sum
  | [], l, h0 => by simp [szLoop]; omega
  | c :: cs, l, h0 => by
    rw [szLoop, h c l, List.map_cons, List.sum_cons]
    by_cases h1 : l - g c < 0
    · rw [if_pos h1, if_pos (by omega), if_pos (by omega)]
    · rw [if_neg h1, if_neg h1, szLoop_cost h cs _ (by omega)]
      by_cases h2 : l - g c - (cs.map g).sum < 0
      · rw [if_pos h2, if_pos (by omega)]
      · rw [if_neg h2, if_neg (by omega)]; omega
theorem szS_cost {α : Type} {f : α → Int → Int} {g : α → Nat} (h : Costs f g) : Costs (szS f) (costS g) := fun cs l => by
  unfold szS costS
  by_cases h1 : l - cs.length < 0
  · rw [if_pos h1, if_pos (by omega)]
  · rw [if_neg h1, szLoop_cost h cs _ (by omega)]
    by_cases h2 : l - cs.length - (cs.map g).sum < 0
    · rw [if_pos h2, if_pos (by omega)]
    · rw [if_neg h2, if_neg (by omega)]; omega
def cT (t : Trm) : Nat := t.n.length
def cB (s : List UInt8) : Nat := s.length
def cP (o : Pck) : Nat := o.n.length + (costS cB o.p + (costS (costS cT) o.d + costS cT o.b))
theorem szT_cost : Costs szT cT := fun _ _ => rfl
theorem szB_cost : Costs szB cB := fun _ _ => rfl
theorem szP_cost : Costs szP cP := fun o l => by
  unfold szP cP
  rw [show szN o.n.length l = if l - o.n.length < 0 then -1 else l - o.n.length from rfl, szS_cost (szS_cost szT_cost) o.d, szS_cost szT_cost o.b, szS_cost szB_cost o.p]
  generalize costS cB o.p = a
  generalize costS (costS cT) o.d = b
  generalize costS cT o.b = c
  generalize o.n.length = d
  repeat' split
  all_goals omega
theorem len_cost {α : Type} (g : α → Nat) (cs : List α) : cs.length ≤ costS g cs := by unfold costS; omega
theorem mem_cost {α : Type} (g : α → Nat) : ∀ (cs : List α), ∀ c ∈ cs, g c ≤ costS g cs
  | x :: cs, c, h => by
    unfold costS
    rw [List.map_cons, List.sum_cons, List.length_cons]
    rcases List.mem_cons.1 h with rfl | h
    · omega
    · have := mem_cost g cs c h; unfold costS at this; omega
theorem small_of {o : Pck} (h : cP o ≤ 1048576) : o.Small := by
  unfold cP at h
  refine ⟨?_, ?_, ?_, fun l hl => ?_⟩
  · have := len_cost cB o.p; omega
  · have := len_cost (costS cT) o.d; omega
  · have := len_cost cT o.b; omega
  · have h1 := mem_cost (costS cT) o.d l hl
    have h2 := len_cost cT l
    omega
theorem szN_w {n : Nat} {l : Int} (h0 : 0 ≤ l) (h1 : l ≤ 1048576) (hm : n ≤ maxLen) : IntKind.i64.wrap (l - n) = l - n := szw h0 h1 hm
theorem c_szTerm (t : Trm) (l : Int) (h0 : 0 ≤ l) (h1 : l ≤ 1048576) (hm : t.n.length ≤ maxLen) : PCtr PP n_laws_szTerm [t.enc, i64 l] (i64 (szT t l)) := by
  obtain ⟨Ω, hΩ⟩ : ∃ Ω, Ω = std := ⟨_, rfl⟩
  obtain ⟨r, hr⟩ : ∃ r, r = szT t l := ⟨_, rfl⟩
  rw [← hr]
  unfold szT szN at hr
  have hw := szN_w h0 h1 hm
  have htab := tab
  refine PCtr.walk tab hΩ fn_laws_szTerm rfl ?_
  generalize PP = P at *
  cbv
  refine br (fun h => ?_) (fun h => ?_) <;> cbv
  · refine .of (congrArg i64 ?_)
    subst hΩ
    have h : IntKind.i64.wrap (l - t.n.length) < 0 := lt_t h
    rw [hw] at h
    rw [hr, if_pos h]
  · refine .of (congrArg i64 ?_)
    subst hΩ
    have h : 0 ≤ IntKind.i64.wrap (l - t.n.length) := lt_f h
    show IntKind.i64.wrap (l - t.n.length) = r
    rw [hw] at h ⊢
    rw [hr, if_neg (by omega)]
theorem c_szTermS (cs : List (Trm)) (l : Int) (h0 : 0 ≤ l) (h1 : l ≤ 1048576) (hm : cs.length ≤ maxLen) (hc : ∀ c ∈ cs, c.n.length ≤ maxLen) : PCtr PP n_laws_szTermS [.sl false 7 (cs.map (Trm.enc)), i64 l] (i64 (szS szT cs l)) := by
  obtain ⟨Ω, hΩ⟩ : ∃ Ω, Ω = std := ⟨_, rfl⟩
  obtain ⟨r, hr⟩ : ∃ r, r = szS szT cs l := ⟨_, rfl⟩
  obtain ⟨xs, hxs⟩ : ∃ xs, xs = cs.map (Trm.enc) := ⟨_, rfl⟩
  have hlen : xs.length = cs.length := by rw [hxs, List.length_map]
  rw [← hxs, ← hr]
  have hel : ∀ c ∈ cs, ∀ y, 0 ≤ y → y ≤ 1048576 → PCtr PP n_laws_szTerm [c.enc, i64 y] (i64 (szT c y)) := fun c h y a b => c_szTerm c y a b (hc c h)
  have hle : ∀ c y, 0 ≤ szT c y → szT c y ≤ y := fun c y h => by
    have h2 := szT_cost c y
    rw [h2] at h ⊢
    split at h
    · omega
    · rename_i h3; rw [if_neg h3]; omega
  have htab := tab
  refine PCtr.walk tab hΩ fn_laws_szTermS rfl ?_
  generalize PP = P at *
  cbv
  refine br (fun h => ?_) (fun h => ?_)
  · replace h : r = -1 := by
      subst hΩ
      have h : IntKind.i64.wrap (l - xs.length) < 0 := lt_t h
      rw [hlen, szw h0 h1 hm] at h
      rw [hr, szS, if_pos h]
    cbv
    exact .of (congrArg i64 h.symm)
  obtain ⟨l', hl', h, hr⟩ : ∃ l', IntKind.i64.wrap (l - xs.length) = l' ∧ (0 ≤ l' ∧ l' ≤ 1048576) ∧ r = szLoop szT cs l' := by
    subst hΩ
    have h : 0 ≤ IntKind.i64.wrap (l - xs.length) := lt_f h
    rw [hlen, szw h0 h1 hm] at h ⊢
    exact ⟨_, rfl, ⟨h, by omega⟩, by rw [hr, szS, if_neg (by omega)]⟩
  cbv
  refine loopX htab hΩ (fun i : Nat × Int => ⟨[(0, .sl false 7 xs), (1, .sc (.int .i64 i.2)), (5, .sc (.int .i64 (Ω.int i.1)))], 27, []⟩) (fun i => i.1 ≤ cs.length ∧ (0 ≤ i.2 ∧ i.2 ≤ 1048576) ∧ r = szLoop szT (cs.drop i.1) i.2)
    (fun i => cs.length - i.1) (0, l') ⟨Nat.zero_le _, h, hr⟩ (Sbs.mk rfl rfl ⟨rfl, by subst hΩ; exact congrArg i64 hl', zeroI hΩ, trivial⟩) ?_
  rintro ⟨i, y⟩ ⟨hi, hy, he⟩
  dsimp only at hi hy he
  cbv
  refine br (fun h => ?_) (fun h => ?_)
  · replace h := ltI hΩ h
    obtain ⟨c, hcc⟩ := at_of (cs := cs) (by omega : i < cs.length)
    have hcm := List.mem_of_getElem? hcc
    rw [szLoop_at _ hcc] at he
    cbv
    have hcc' := hel c hcm y hy.1 hy.2
    refine ⟨⟨nnI hΩ⟩, _, rdI hΩ hxs hcc, ?_⟩
    cbv
    have hley := hle c y
    generalize szT c y = y' at he hcc' hley
    refine call_pure hΩ 3 hcc' rfl (fits _) rfl rfl ?_
    cbv
    refine br (fun h => ?_) (fun h => ?_) <;> cbv
    · exact .of (congrArg i64 (by rw [he, if_pos (ltI_t hΩ h)]))
    · have h := ltI_f hΩ h
      exact ⟨(i + 1, y'), ⟨by dsimp only; omega, ⟨h, by have := hley h; dsimp only; omega⟩, by rw [he, if_neg (by omega)]⟩, by dsimp only; omega, Sbs.mk rfl rfl ⟨rfl, rfl, incI hΩ (by simp only [maxLen] at hm; omega), trivial⟩⟩
  · replace h := geI hΩ h
    cbv
    exact .of (congrArg i64 (by rw [he, List.drop_of_length_le (by omega)]; rfl))
theorem c_szTermSS (cs : List (List Trm)) (l : Int) (h0 : 0 ≤ l) (h1 : l ≤ 1048576) (hm : cs.length ≤ maxLen) (hc : ∀ c ∈ cs, c.length ≤ maxLen ∧ ∀ t ∈ c, t.n.length ≤ maxLen) : PCtr PP n_laws_szTermSS [.sl false 1 (cs.map (encTs false)), i64 l] (i64 (szS (szS szT) cs l)) := by
  obtain ⟨Ω, hΩ⟩ : ∃ Ω, Ω = std := ⟨_, rfl⟩
  obtain ⟨r, hr⟩ : ∃ r, r = szS (szS szT) cs l := ⟨_, rfl⟩
  obtain ⟨xs, hxs⟩ : ∃ xs, xs = cs.map (encTs false) := ⟨_, rfl⟩
  have hlen : xs.length = cs.length := by rw [hxs, List.length_map]
  rw [← hxs, ← hr]
  have hel : ∀ c ∈ cs, ∀ y, 0 ≤ y → y ≤ 1048576 → PCtr PP n_laws_szTermS [.sl false 7 (c.map Trm.enc), i64 y] (i64 (szS szT c y)) := fun c h y a b => c_szTermS c y a b (hc c h).1 (hc c h).2
  have hle : ∀ c y, 0 ≤ (szS szT) c y → (szS szT) c y ≤ y := fun c y h => by
    have h2 := (szS_cost szT_cost) c y
    rw [h2] at h ⊢
    split at h
    · omega
    · rename_i h3; rw [if_neg h3]; omega
  have htab := tab
  refine PCtr.walk tab hΩ fn_laws_szTermSS rfl ?_
  generalize PP = P at *
  cbv
  refine br (fun h => ?_) (fun h => ?_)
  · replace h : r = -1 := by
      subst hΩ
      have h : IntKind.i64.wrap (l - xs.length) < 0 := lt_t h
      rw [hlen, szw h0 h1 hm] at h
      rw [hr, szS, if_pos h]
    cbv
    exact .of (congrArg i64 h.symm)
  obtain ⟨l', hl', h, hr⟩ : ∃ l', IntKind.i64.wrap (l - xs.length) = l' ∧ (0 ≤ l' ∧ l' ≤ 1048576) ∧ r = szLoop (szS szT) cs l' := by
    subst hΩ
    have h : 0 ≤ IntKind.i64.wrap (l - xs.length) := lt_f h
    rw [hlen, szw h0 h1 hm] at h ⊢
    exact ⟨_, rfl, ⟨h, by omega⟩, by rw [hr, szS, if_neg (by omega)]⟩
  cbv
  refine loopX htab hΩ (fun i : Nat × Int => ⟨[(0, .sl false 1 xs), (1, .sc (.int .i64 i.2)), (5, .sc (.int .i64 (Ω.int i.1)))], 27, []⟩) (fun i => i.1 ≤ cs.length ∧ (0 ≤ i.2 ∧ i.2 ≤ 1048576) ∧ r = szLoop (szS szT) (cs.drop i.1) i.2)
    (fun i => cs.length - i.1) (0, l') ⟨Nat.zero_le _, h, hr⟩ (Sbs.mk rfl rfl ⟨rfl, by subst hΩ; exact congrArg i64 hl', zeroI hΩ, trivial⟩) ?_
  rintro ⟨i, y⟩ ⟨hi, hy, he⟩
  dsimp only at hi hy he
  cbv
  refine br (fun h => ?_) (fun h => ?_)
  · replace h := ltI hΩ h
    obtain ⟨c, hcc⟩ := at_of (cs := cs) (by omega : i < cs.length)
    have hcm := List.mem_of_getElem? hcc
    rw [szLoop_at _ hcc] at he
    cbv
    have hcc' := hel c hcm y hy.1 hy.2
    obtain ⟨ts, hen2, hts⟩ : ∃ ts, encTs false c = .sl false 7 ts ∧ ts = c.map Trm.enc := ⟨_, rfl, rfl⟩
    rw [← hts] at hcc'
    refine ⟨⟨nnI hΩ⟩, _, (rdI hΩ hxs hcc).trans (congrArg some hen2), ?_⟩
    cbv
    have hley := hle c y
    generalize szS szT c y = y' at he hcc' hley
    refine call_pure hΩ 3 hcc' rfl (fits _) rfl rfl ?_
    cbv
    refine br (fun h => ?_) (fun h => ?_) <;> cbv
    · exact .of (congrArg i64 (by rw [he, if_pos (ltI_t hΩ h)]))
    · have h := ltI_f hΩ h
      exact ⟨(i + 1, y'), ⟨by dsimp only; omega, ⟨h, by have := hley h; dsimp only; omega⟩, by rw [he, if_neg (by omega)]⟩, by dsimp only; omega, Sbs.mk rfl rfl ⟨rfl, rfl, incI hΩ (by simp only [maxLen] at hm; omega), trivial⟩⟩
  · replace h := geI hΩ h
    cbv
    exact .of (congrArg i64 (by rw [he, List.drop_of_length_le (by omega)]; rfl))
theorem c_szStringS (cs : List (List UInt8)) (l : Int) (h0 : 0 ≤ l) (h1 : l ≤ 1048576) (hm : cs.length ≤ maxLen) (hc : ∀ c ∈ cs, c.length ≤ maxLen) : PCtr PP n_laws_szStringS [.sl false 1 (cs.map (str)), i64 l] (i64 (szS szB cs l)) := by
  obtain ⟨Ω, hΩ⟩ : ∃ Ω, Ω = std := ⟨_, rfl⟩
  obtain ⟨r, hr⟩ : ∃ r, r = szS szB cs l := ⟨_, rfl⟩
  obtain ⟨xs, hxs⟩ : ∃ xs, xs = cs.map (str) := ⟨_, rfl⟩
  have hlen : xs.length = cs.length := by rw [hxs, List.length_map]
  rw [← hxs, ← hr]
  have hel : ∀ c ∈ cs, ∀ y, 0 ≤ y → y ≤ 1048576 → True := fun _ _ _ _ _ => trivial
  have hle : ∀ c y, 0 ≤ szB c y → szB c y ≤ y := fun c y h => by
    have h2 := szB_cost c y
    rw [h2] at h ⊢
    split at h
    · omega
    · rename_i h3; rw [if_neg h3]; omega
  have htab := tab
  refine PCtr.walk tab hΩ fn_laws_szStringS rfl ?_
  generalize PP = P at *
  cbv
  refine br (fun h => ?_) (fun h => ?_)
  · replace h : r = -1 := by
      subst hΩ
      have h : IntKind.i64.wrap (l - xs.length) < 0 := lt_t h
      rw [hlen, szw h0 h1 hm] at h
      rw [hr, szS, if_pos h]
    cbv
    exact .of (congrArg i64 h.symm)
  obtain ⟨l', hl', h, hr⟩ : ∃ l', IntKind.i64.wrap (l - xs.length) = l' ∧ (0 ≤ l' ∧ l' ≤ 1048576) ∧ r = szLoop szB cs l' := by
    subst hΩ
    have h : 0 ≤ IntKind.i64.wrap (l - xs.length) := lt_f h
    rw [hlen, szw h0 h1 hm] at h ⊢
    exact ⟨_, rfl, ⟨h, by omega⟩, by rw [hr, szS, if_neg (by omega)]⟩
  cbv
  refine loopX htab hΩ (fun i : Nat × Int => ⟨[(0, .sl false 1 xs), (1, .sc (.int .i64 i.2)), (5, .sc (.int .i64 (Ω.int i.1)))], 28, []⟩) (fun i => i.1 ≤ cs.length ∧ (0 ≤ i.2 ∧ i.2 ≤ 1048576) ∧ r = szLoop szB (cs.drop i.1) i.2)
    (fun i => cs.length - i.1) (0, l') ⟨Nat.zero_le _, h, hr⟩ (Sbs.mk rfl rfl ⟨rfl, by subst hΩ; exact congrArg i64 hl', zeroI hΩ, trivial⟩) ?_
  rintro ⟨i, y⟩ ⟨hi, hy, he⟩
  dsimp only at hi hy he
  cbv
  refine br (fun h => ?_) (fun h => ?_)
  · replace h := ltI hΩ h
    obtain ⟨c, hcc⟩ := at_of (cs := cs) (by omega : i < cs.length)
    have hcm := List.mem_of_getElem? hcc
    rw [szLoop_at _ hcc] at he
    cbv
    obtain ⟨nc, hnc⟩ : ∃ nc : Int, (c.length : Int) = nc := ⟨_, rfl⟩
    have hn0 : 0 ≤ nc := by omega
    have hcw : IntKind.i64.wrap (y - nc) = y - nc := by rw [← hnc]; exact szw hy.1 hy.2 (hc c hcm)
    rw [show szB c y = if y - c.length < 0 then -1 else y - c.length from rfl, hnc] at he
    have hst : Ω.ar .sub .i64 y (Ω.int (Ω.lenS c)) = IntKind.i64.wrap (y - nc) := by subst hΩ; rw [← hnc]; rfl
    rw [hcw] at hst
    refine ⟨⟨nnI hΩ⟩, _, rdI hΩ hxs hcc, ?_⟩
    cbv
    refine br (fun h => ?_) (fun h => ?_) <;> cbv
    · refine .of (congrArg i64 ?_)
      have h : y - nc < 0 := by rw [← hst]; exact ltI_t hΩ h
      rw [he, if_pos h, if_pos (by omega)]
    · have h2 : 0 ≤ y - nc := by rw [← hst]; exact ltI_f hΩ h
      rw [if_neg (by omega), if_neg (by omega)] at he
      exact ⟨(i + 1, y - nc), ⟨by dsimp only; omega, ⟨h2, by dsimp only; omega⟩, he⟩, by dsimp only; omega, Sbs.mk rfl rfl ⟨rfl, congrArg i64 hst, incI hΩ (by simp only [maxLen] at hm; omega), trivial⟩⟩
  · replace h := geI hΩ h
    cbv
    exact .of (congrArg i64 (by rw [he, List.drop_of_length_le (by omega)]; rfl))
theorem c_szPack (o : Pck) (l : Int) (h0 : 0 ≤ l) (h1 : l ≤ 1048576) (hm : o.Fit) : PCtr PP n_laws_szPack [o.enc false, i64 l] (i64 (szP o l)) := by
  obtain ⟨Ω, hΩ⟩ : ∃ Ω, Ω = std := ⟨_, rfl⟩
  obtain ⟨r, hr⟩ : ∃ r, r = szP o l := ⟨_, rfl⟩
  rw [← hr]
  obtain ⟨ps, ds, bs, hen, hps, hds, hbs⟩ := enc_raw o
  rw [hen]
  have hw := szN_w h0 h1 hm.n
  have k1 : ∀ l, 0 ≤ l → l ≤ 1048576 → PCtr PP n_laws_szStringS [.sl false 1 ps, i64 l] (i64 (szS szB o.p l)) := fun l a b => by rw [hps]; exact c_szStringS o.p l a b hm.p.1 hm.p.2
  have k2 : ∀ l, 0 ≤ l → l ≤ 1048576 → PCtr PP n_laws_szTermSS [.sl false 1 ds, i64 l] (i64 (szS (szS szT) o.d l)) := fun l a b => by rw [hds]; exact c_szTermSS o.d l a b hm.d.1 hm.d.2
  have k3 : ∀ l, 0 ≤ l → l ≤ 1048576 → PCtr PP n_laws_szTermS [.sl false 7 bs, i64 l] (i64 (szS szT o.b l)) := fun l a b => by rw [hbs]; exact c_szTermS o.b l a b hm.b.1 hm.b.2
  have g1 : ∀ l, 0 ≤ szS szB o.p l → szS szB o.p l ≤ l := fun l h => by have := szS_cost szB_cost o.p l; split at this <;> omega
  have g2 : ∀ l, 0 ≤ szS (szS szT) o.d l → szS (szS szT) o.d l ≤ l := fun l h => by have := szS_cost (szS_cost szT_cost) o.d l; split at this <;> omega
  unfold szP at hr
  obtain ⟨nc, hnc⟩ : ∃ nc : Int, (o.n.length : Int) = nc := ⟨_, rfl⟩
  have hn0 : 0 ≤ nc := by omega
  rw [show szN o.n.length l = if l - o.n.length < 0 then -1 else l - o.n.length from rfl, hnc] at hr
  have hst : Ω.ar .sub .i64 l (Ω.int (Ω.lenS o.n)) = IntKind.i64.wrap (l - nc) := by subst hΩ; rw [← hnc]; rfl
  rw [hnc] at hw
  rw [hw] at hst
  generalize szS szB o.p = f1 at *
  generalize szS (szS szT) o.d = f2 at *
  generalize szS szT o.b = f3 at *
  have htab := tab
  refine PCtr.walk tab hΩ fn_laws_szPack rfl ?_
  generalize PP = P at *
  cbv
  refine br (fun h => ?_) (fun h => ?_) <;> cbv
  · refine .of (congrArg i64 ?_)
    have h : l - nc < 0 := by rw [← hst]; exact ltI_t hΩ h
    rw [hr, if_pos h]; rfl
  obtain ⟨l1, hl1, q0, q1, hr⟩ : ∃ l1, Ω.ar .sub .i64 l (Ω.int (Ω.lenS o.n)) = l1 ∧ 0 ≤ l1 ∧ l1 ≤ 1048576 ∧ r = if f1 l1 < 0 then -1 else if f2 (f1 l1) < 0 then -1 else if f3 (f2 (f1 l1)) < 0 then -1 else f3 (f2 (f1 l1)) := by
    have h : 0 ≤ l - nc := by rw [← hst]; exact ltI_f hΩ h
    have e : (if l - nc < 0 then -1 else l - nc) = l - nc := if_neg (by omega)
    refine ⟨l - nc, hst, h, by omega, ?_⟩
    rw [hr]
    simp only [e]
    rw [if_neg (by omega)]
  have k1' : PCtr P n_laws_szStringS [.sl false 1 ps, i64 (Ω.ar .sub .i64 l (Ω.int (Ω.lenS o.n)))] (i64 (f1 l1)) := by rw [hl1]; exact k1 l1 q0 q1
  have gg1 := g1 l1
  generalize f1 l1 = a1 at *
  refine call_pure hΩ 3 k1' rfl (fits _) rfl rfl ?_
  cbv
  refine br (fun h => ?_) (fun h => ?_) <;> cbv
  · exact .of (congrArg i64 (by rw [hr, if_pos (ltI_t hΩ h)]))
  have h := ltI_f hΩ h
  rw [if_neg (by omega)] at hr
  have k2' := k2 a1 h (by have := gg1 h; omega)
  have gg2 := g2 a1
  generalize f2 a1 = a2 at *
  refine call_pure hΩ 3 k2' rfl (fits _) rfl rfl ?_
  cbv
  refine br (fun h => ?_) (fun h => ?_) <;> cbv
  · exact .of (congrArg i64 (by rw [hr, if_pos (ltI_t hΩ h)]))
  have h' := ltI_f hΩ h
  rw [if_neg (by omega)] at hr
  have k3' := k3 a2 h' (by have := gg1 (by assumption); have := gg2 h'; omega)
  generalize f3 a2 = a3 at *
  refine call_pure hΩ 3 k3' rfl (fits _) rfl rfl ?_
  cbv
  refine br (fun h => ?_) (fun h => ?_) <;> cbv
  · exact .of (congrArg i64 (by rw [hr, if_pos (ltI_t hΩ h)]))
  have h3 := ltI_f hΩ h
  rw [if_neg (by omega)] at hr
  exact .of (congrArg i64 hr.symm)
theorem c_szPackS (cs : List (Pck)) (l : Int) (h0 : 0 ≤ l) (h1 : l ≤ 1048576) (hm : cs.length ≤ maxLen) (hc : ∀ c ∈ cs, c.Fit) : PCtr PP n_laws_szPackS [.sl false 8 (cs.map (Pck.enc false)), i64 l] (i64 (szS szP cs l)) := by
  obtain ⟨Ω, hΩ⟩ : ∃ Ω, Ω = std := ⟨_, rfl⟩
  obtain ⟨r, hr⟩ : ∃ r, r = szS szP cs l := ⟨_, rfl⟩
  obtain ⟨xs, hxs⟩ : ∃ xs, xs = cs.map (Pck.enc false) := ⟨_, rfl⟩
  have hlen : xs.length = cs.length := by rw [hxs, List.length_map]
  rw [← hxs, ← hr]
  have hel : ∀ c ∈ cs, ∀ y, 0 ≤ y → y ≤ 1048576 → PCtr PP n_laws_szPack [Pck.enc false c, i64 y] (i64 (szP c y)) := fun c h y a b => c_szPack c y a b (hc c h)
  have hle : ∀ c y, 0 ≤ szP c y → szP c y ≤ y := fun c y h => by
    have h2 := szP_cost c y
    rw [h2] at h ⊢
    split at h
    · omega
    · rename_i h3; rw [if_neg h3]; omega
  have htab := tab
  refine PCtr.walk tab hΩ fn_laws_szPackS rfl ?_
  generalize PP = P at *
  cbv
  refine br (fun h => ?_) (fun h => ?_)
  · replace h : r = -1 := by
      subst hΩ
      have h : IntKind.i64.wrap (l - xs.length) < 0 := lt_t h
      rw [hlen, szw h0 h1 hm] at h
      rw [hr, szS, if_pos h]
    cbv
    exact .of (congrArg i64 h.symm)
  obtain ⟨l', hl', h, hr⟩ : ∃ l', IntKind.i64.wrap (l - xs.length) = l' ∧ (0 ≤ l' ∧ l' ≤ 1048576) ∧ r = szLoop szP cs l' := by
    subst hΩ
    have h : 0 ≤ IntKind.i64.wrap (l - xs.length) := lt_f h
    rw [hlen, szw h0 h1 hm] at h ⊢
    exact ⟨_, rfl, ⟨h, by omega⟩, by rw [hr, szS, if_neg (by omega)]⟩
  cbv
  refine loopX htab hΩ (fun i : Nat × Int => ⟨[(0, .sl false 8 xs), (1, .sc (.int .i64 i.2)), (5, .sc (.int .i64 (Ω.int i.1)))], 27, []⟩) (fun i => i.1 ≤ cs.length ∧ (0 ≤ i.2 ∧ i.2 ≤ 1048576) ∧ r = szLoop szP (cs.drop i.1) i.2)
    (fun i => cs.length - i.1) (0, l') ⟨Nat.zero_le _, h, hr⟩ (Sbs.mk rfl rfl ⟨rfl, by subst hΩ; exact congrArg i64 hl', zeroI hΩ, trivial⟩) ?_
  rintro ⟨i, y⟩ ⟨hi, hy, he⟩
  dsimp only at hi hy he
  cbv
  refine br (fun h => ?_) (fun h => ?_)
  · replace h := ltI hΩ h
    obtain ⟨c, hcc⟩ := at_of (cs := cs) (by omega : i < cs.length)
    have hcm := List.mem_of_getElem? hcc
    rw [szLoop_at _ hcc] at he
    cbv
    have hcc' := hel c hcm y hy.1 hy.2
    obtain ⟨ps, ds, bs, hen, hps, hds, hbs⟩ := enc_raw c
    rw [hen] at hcc'
    refine ⟨⟨nnI hΩ⟩, _, (rdI hΩ hxs hcc).trans (congrArg some hen), ?_⟩
    cbv
    have hley := hle c y
    generalize szP c y = y' at he hcc' hley
    refine call_pure hΩ 3 hcc' rfl (fits _) rfl rfl ?_
    cbv
    refine br (fun h => ?_) (fun h => ?_) <;> cbv
    · exact .of (congrArg i64 (by rw [he, if_pos (ltI_t hΩ h)]))
    · have h := ltI_f hΩ h
      exact ⟨(i + 1, y'), ⟨by dsimp only; omega, ⟨h, by have := hley h; dsimp only; omega⟩, by rw [he, if_neg (by omega)]⟩, by dsimp only; omega, Sbs.mk rfl rfl ⟨rfl, rfl, incI hΩ (by simp only [maxLen] at hm; omega), trivial⟩⟩
  · replace h := geI hΩ h
    cbv
    exact .of (congrArg i64 (by rw [he, List.drop_of_length_le (by omega)]; rfl))
end Go.Proofs.YtomfmdfamlmfiaaGreat

/- Walks: copies. Plain theorems. -/
set_option linter.unusedVariables false
set_option linter.unusedSimpArgs false
namespace Go.Proofs.YtomfmdfamlmfiaaGreat
open Go Go.Fw
set_option maxRecDepth 100000
/-- A slice that is filled from the left. -/
theorem c_toVersion (v : Ver) : PCtr PP n_laws_toVersion [v.enc] v.enc := by
  obtain ⟨Ω, hΩ⟩ : ∃ Ω, Ω = std := ⟨_, rfl⟩
  refine PCtr.walk tab hΩ fn_laws_toVersion rfl ?_
  generalize PP = P
  cbv
  exact .same
theorem c_toTerm (t : Trm) : PCtr PP n_laws_toTerm [t.enc] t.enc := by
  obtain ⟨Ω, hΩ⟩ : ∃ Ω, Ω = std := ⟨_, rfl⟩
  have hc := c_toVersion
  refine PCtr.walk tab hΩ fn_laws_toTerm rfl ?_
  generalize PP = P at *
  cbv
  refine call_pure hΩ 3 (hc t.l) rfl (fits _) rfl rfl ?_
  cbv
  refine call_pure hΩ 3 (hc t.h) rfl (fits _) rfl rfl ?_
  cbv
  exact .same
theorem c_toStringS (cs : List (List UInt8)) (hb : cs.length ≤ 1048576) : PCtr PP n_laws_toStringS [.sl false 1 (cs.map (str))] (.sl true 1 (cs.map (str))) := by
  obtain ⟨Ω, hΩ⟩ : ∃ Ω, Ω = std := ⟨_, rfl⟩
  obtain ⟨xs, hxs⟩ : ∃ xs, xs = cs.map (str) := ⟨_, rfl⟩
  obtain ⟨zs, hzs⟩ : ∃ zs, zs = cs.map (str) := ⟨_, rfl⟩
  obtain ⟨n, hn⟩ : ∃ n, n = cs.length := ⟨_, rfl⟩
  have hlen : xs.length = n := by rw [hxs, hn, List.length_map]
  obtain ⟨ys, hys⟩ : ∃ ys : Nat → List A, ys = fill (str) (str []) cs := ⟨_, rfl⟩
  have hyl : ∀ i, i ≤ n → (ys i).length = n := fun i hi => by rw [hys, hn]; exact fill_length (by omega)
  have hya : ∀ i, ∀ z ∈ ys i, vStore.isAggA z = false := fun i => by rw [hys]; exact fill_all (fun _ => rfl) rfl
  have hy0 : List.replicate n (str []) = ys 0 := by rw [hys, fill_zero, hn]
  have hyn : ys n = zs := by rw [hys, hn, fill_full, hzs]
  have hyset : ∀ i c, cs[i]? = some c → (ys i).set i ((str) c) = ys (i + 1) := fun i c h => by rw [hys]; exact fill_set h
  clear hys
  rw [← hxs]
  rw [show A.sl true 1 xs = .sl true 1 zs by rw [hzs, hxs]]
  refine PCtr.walk tab hΩ fn_laws_toStringS rfl ?_
  have htab := tab
  have hmo := hmo
  generalize PP = P at *
  cbv
  refine ⟨⟨by subst hΩ; show _ ∧ (0 : Int) ≤ xs.length ∧ 16 * ((xs.length : Int).toNat) ≤ _ ∧ (xs.length : Int).toNat ≤ 9223372036854775807; rw [hlen]; refine ⟨rfl, ?_, ?_, ?_⟩ <;> omega⟩,
    loopX htab hΩ (fun i : Nat => ⟨[(0, .sl false 1 xs), (3, .vw 0 0 n), (4, .sc (.int .i64 (Ω.int i)))], 22, [some ⟨1, ys i, false⟩]⟩) (fun i => i ≤ n) (fun i => n - i) 0 (Nat.zero_le _) (Sbs.mk rfl ?_ ?_) (fun i hi => ?_)⟩
  · rw [← hy0]; subst hΩ; subst hlen; rfl
  · subst hΩ; subst hlen; exact ⟨rfl, rfl, rfl, trivial⟩
  have hyli := hyl i hi
  have hyai := hya i
  cbv
  refine br (fun h => ?_) (fun h => ?_)
  · replace h : i < n := by have := ltI hΩ h; omega
    obtain ⟨c, hcc⟩ := at_of (cs := cs) (by omega : i < cs.length)
    have hset := hyset i c hcc
    cbv
    refine ⟨⟨nnI hΩ⟩, _, rdI hΩ hxs hcc, ?_⟩
    cbv
    refine ⟨⟨ixI hΩ h⟩, ⟨by subst hΩ; show 0 + i < _; rw [hyli]; omega, hyai⟩, i + 1, by omega, by omega, Sbs.mk rfl (by rw [← hset]; subst hΩ; show [some (Row.mk 1 ((ys i).set (0 + i) _) false)] = _; rw [Nat.zero_add]; rfl) ⟨rfl, rfl, incI hΩ (by omega), trivial⟩⟩
  · replace h : i = n := by have := geI hΩ h; omega
    subst h
    cbv
    refine ⟨⟨rfl, by show i ≤ (ys i).length; omega⟩, .of ?_⟩
    rw [← hyn]
    subst hΩ
    show A.sl true 1 ((ys i).take i) = _
    rw [List.take_of_length_le (by omega)]
theorem c_toInt64S (cs : List (Int)) (hb : cs.length ≤ 1048576) : PCtr PP n_laws_toInt64S [.sl false 1 (cs.map (i64))] (.sl true 1 (cs.map (i64))) := by
  obtain ⟨Ω, hΩ⟩ : ∃ Ω, Ω = std := ⟨_, rfl⟩
  obtain ⟨xs, hxs⟩ : ∃ xs, xs = cs.map (i64) := ⟨_, rfl⟩
  obtain ⟨zs, hzs⟩ : ∃ zs, zs = cs.map (i64) := ⟨_, rfl⟩
  obtain ⟨n, hn⟩ : ∃ n, n = cs.length := ⟨_, rfl⟩
  have hlen : xs.length = n := by rw [hxs, hn, List.length_map]
  obtain ⟨ys, hys⟩ : ∃ ys : Nat → List A, ys = fill (i64) (i64 0) cs := ⟨_, rfl⟩
  have hyl : ∀ i, i ≤ n → (ys i).length = n := fun i hi => by rw [hys, hn]; exact fill_length (by omega)
  have hya : ∀ i, ∀ z ∈ ys i, vStore.isAggA z = false := fun i => by rw [hys]; exact fill_all (fun _ => rfl) rfl
  have hy0 : List.replicate n (i64 0) = ys 0 := by rw [hys, fill_zero, hn]
  have hyn : ys n = zs := by rw [hys, hn, fill_full, hzs]
  have hyset : ∀ i c, cs[i]? = some c → (ys i).set i ((i64) c) = ys (i + 1) := fun i c h => by rw [hys]; exact fill_set h
  clear hys
  rw [← hxs]
  rw [show A.sl true 1 xs = .sl true 1 zs by rw [hzs, hxs]]
  refine PCtr.walk tab hΩ fn_laws_toInt64S rfl ?_
  have htab := tab
  have hmo := hmo
  generalize PP = P at *
  cbv
  refine ⟨⟨by subst hΩ; show _ ∧ (0 : Int) ≤ xs.length ∧ 8 * ((xs.length : Int).toNat) ≤ _ ∧ (xs.length : Int).toNat ≤ 9223372036854775807; rw [hlen]; refine ⟨rfl, ?_, ?_, ?_⟩ <;> omega⟩,
    loopX htab hΩ (fun i : Nat => ⟨[(0, .sl false 1 xs), (3, .vw 0 0 n), (4, .sc (.int .i64 (Ω.int i)))], 22, [some ⟨1, ys i, false⟩]⟩) (fun i => i ≤ n) (fun i => n - i) 0 (Nat.zero_le _) (Sbs.mk rfl ?_ ?_) (fun i hi => ?_)⟩
  · rw [← hy0]; subst hΩ; subst hlen; rfl
  · subst hΩ; subst hlen; exact ⟨rfl, rfl, rfl, trivial⟩
  have hyli := hyl i hi
  have hyai := hya i
  cbv
  refine br (fun h => ?_) (fun h => ?_)
  · replace h : i < n := by have := ltI hΩ h; omega
    obtain ⟨c, hcc⟩ := at_of (cs := cs) (by omega : i < cs.length)
    have hset := hyset i c hcc
    cbv
    refine ⟨⟨nnI hΩ⟩, _, rdI hΩ hxs hcc, ?_⟩
    cbv
    refine ⟨⟨ixI hΩ h⟩, ⟨by subst hΩ; show 0 + i < _; rw [hyli]; omega, hyai⟩, i + 1, by omega, by omega, Sbs.mk rfl (by rw [← hset]; subst hΩ; show [some (Row.mk 1 ((ys i).set (0 + i) _) false)] = _; rw [Nat.zero_add]; rfl) ⟨rfl, rfl, incI hΩ (by omega), trivial⟩⟩
  · replace h : i = n := by have := geI hΩ h; omega
    subst h
    cbv
    refine ⟨⟨rfl, by show i ≤ (ys i).length; omega⟩, .of ?_⟩
    rw [← hyn]
    subst hΩ
    show A.sl true 1 ((ys i).take i) = _
    rw [List.take_of_length_le (by omega)]
theorem c_toTermS (cs : List (Trm)) (hb : cs.length ≤ 1048576) : PCtr PP n_laws_toTermS [.sl false 7 (cs.map (Trm.enc))] (.sl true 7 (cs.map (Trm.enc))) := by
  obtain ⟨Ω, hΩ⟩ : ∃ Ω, Ω = std := ⟨_, rfl⟩
  obtain ⟨xs, hxs⟩ : ∃ xs, xs = cs.map (Trm.enc) := ⟨_, rfl⟩
  obtain ⟨zs, hzs⟩ : ∃ zs, zs = cs.map (Trm.enc) := ⟨_, rfl⟩
  obtain ⟨n, hn⟩ : ∃ n, n = cs.length := ⟨_, rfl⟩
  have hlen : xs.length = n := by rw [hxs, hn, List.length_map]
  obtain ⟨ys, hys⟩ : ∃ ys : Nat → List A, ys = fill (Trm.enc) (Trm.zero.enc) cs := ⟨_, rfl⟩
  have hyl : ∀ i, i ≤ n → (ys i).length = n := fun i hi => by rw [hys, hn]; exact fill_length (by omega)
  have hya : ∀ i, ∀ z ∈ ys i, isAggN 7 z = true := fun i => by rw [hys]; exact fill_all (fun _ => rfl) rfl
  have hy0 : List.replicate n (Trm.zero.enc) = ys 0 := by rw [hys, fill_zero, hn]
  have hyn : ys n = zs := by rw [hys, hn, fill_full, hzs]
  have hyset : ∀ i c, cs[i]? = some c → (ys i).set i ((Trm.enc) c) = ys (i + 1) := fun i c h => by rw [hys]; exact fill_set h
  clear hys
  rw [← hxs]
  rw [show A.sl true 7 xs = .sl true 7 zs by rw [hzs, hxs]]
  have hc := c_toTerm
  refine PCtr.walk tab hΩ fn_laws_toTermS rfl ?_
  have htab := tab
  have hmo := hmo
  generalize PP = P at *
  cbv
  refine ⟨⟨by subst hΩ; show _ ∧ (0 : Int) ≤ xs.length ∧ 64 * ((xs.length : Int).toNat) ≤ _ ∧ (xs.length : Int).toNat ≤ 9223372036854775807; rw [hlen]; refine ⟨rfl, ?_, ?_, ?_⟩ <;> omega⟩,
    loopX htab hΩ (fun i : Nat => ⟨[(0, .sl false 7 xs), (3, .vw 0 0 n), (4, .sc (.int .i64 (Ω.int i)))], 23, [some ⟨7, ys i, false⟩]⟩) (fun i => i ≤ n) (fun i => n - i) 0 (Nat.zero_le _) (Sbs.mk rfl ?_ ?_) (fun i hi => ?_)⟩
  · rw [← hy0]; subst hΩ; subst hlen; rfl
  · subst hΩ; subst hlen; exact ⟨rfl, rfl, rfl, trivial⟩
  have hyli := hyl i hi
  have hyai := hya i
  cbv
  refine br (fun h => ?_) (fun h => ?_)
  · replace h : i < n := by have := ltI hΩ h; omega
    obtain ⟨c, hcc⟩ := at_of (cs := cs) (by omega : i < cs.length)
    have hset := hyset i c hcc
    cbv
    refine ⟨⟨nnI hΩ⟩, _, rdI hΩ hxs hcc, ?_⟩
    cbv
    refine call_pure hΩ 3 (hc c) rfl (fits _) rfl rfl ?_
    cbv
    refine ⟨⟨ixI hΩ h⟩, ⟨by subst hΩ; show 0 + i < _; rw [hyli]; omega, hyai⟩, i + 1, by omega, by omega, Sbs.mk rfl (by rw [← hset]; subst hΩ; show [some (Row.mk 7 ((ys i).set (0 + i) _) false)] = _; rw [Nat.zero_add]; rfl) ⟨rfl, rfl, incI hΩ (by omega), trivial⟩⟩
  · replace h : i = n := by have := geI hΩ h; omega
    subst h
    cbv
    refine ⟨⟨rfl, by show i ≤ (ys i).length; omega⟩, .of ?_⟩
    rw [← hyn]
    subst hΩ
    show A.sl true 7 ((ys i).take i) = _
    rw [List.take_of_length_le (by omega)]
theorem c_toTermSS (cs : List (List Trm)) (hb : cs.length ≤ 1048576) (hl : ∀ l ∈ cs, l.length ≤ 1048576) : PCtr PP n_laws_toTermSS [.sl false 1 (cs.map (encTs false))] (.sl true 1 (cs.map (encTs true))) := by
  obtain ⟨Ω, hΩ⟩ : ∃ Ω, Ω = std := ⟨_, rfl⟩
  obtain ⟨xs, hxs⟩ : ∃ xs, xs = cs.map (encTs false) := ⟨_, rfl⟩
  obtain ⟨zs, hzs⟩ : ∃ zs, zs = cs.map (encTs true) := ⟨_, rfl⟩
  obtain ⟨n, hn⟩ : ∃ n, n = cs.length := ⟨_, rfl⟩
  have hlen : xs.length = n := by rw [hxs, hn, List.length_map]
  obtain ⟨ys, hys⟩ : ∃ ys : Nat → List A, ys = fill (encTs true) (.nil) cs := ⟨_, rfl⟩
  have hyl : ∀ i, i ≤ n → (ys i).length = n := fun i hi => by rw [hys, hn]; exact fill_length (by omega)
  have hya : ∀ i, ∀ z ∈ ys i, vStore.isAggA z = false := fun i => by rw [hys]; exact fill_all (fun _ => rfl) rfl
  have hy0 : List.replicate n (.nil) = ys 0 := by rw [hys, fill_zero, hn]
  have hyn : ys n = zs := by rw [hys, hn, fill_full, hzs]
  have hyset : ∀ i c, cs[i]? = some c → (ys i).set i ((encTs true) c) = ys (i + 1) := fun i c h => by rw [hys]; exact fill_set h
  clear hys
  rw [← hxs, ← hzs]
  have hcl : ∀ c ∈ cs, PCtr PP n_laws_toTermS [.sl false 7 (c.map Trm.enc)] (.sl true 7 (c.map Trm.enc)) := fun c h => c_toTermS c (hl c h)
  refine PCtr.walk tab hΩ fn_laws_toTermSS rfl ?_
  have htab := tab
  have hmo := hmo
  generalize PP = P at *
  cbv
  refine ⟨⟨by subst hΩ; show _ ∧ (0 : Int) ≤ xs.length ∧ 24 * ((xs.length : Int).toNat) ≤ _ ∧ (xs.length : Int).toNat ≤ 9223372036854775807; rw [hlen]; refine ⟨rfl, ?_, ?_, ?_⟩ <;> omega⟩,
    loopX htab hΩ (fun i : Nat => ⟨[(0, .sl false 1 xs), (3, .vw 0 0 n), (4, .sc (.int .i64 (Ω.int i)))], 23, [some ⟨1, ys i, false⟩]⟩) (fun i => i ≤ n) (fun i => n - i) 0 (Nat.zero_le _) (Sbs.mk rfl ?_ ?_) (fun i hi => ?_)⟩
  · rw [← hy0]; subst hΩ; subst hlen; rfl
  · subst hΩ; subst hlen; exact ⟨rfl, rfl, rfl, trivial⟩
  have hyli := hyl i hi
  have hyai := hya i
  cbv
  refine br (fun h => ?_) (fun h => ?_)
  · replace h : i < n := by have := ltI hΩ h; omega
    obtain ⟨c, hcc⟩ := at_of (cs := cs) (by omega : i < cs.length)
    have hset := hyset i c hcc
    cbv
    obtain ⟨ts, hen, hts⟩ : ∃ ts, encTs false c = .sl false 7 ts ∧ ts = c.map Trm.enc := ⟨_, rfl, rfl⟩
    have hcc' := hcl c (List.mem_of_getElem? hcc)
    have hrf := roFTs c
    rw [show encTs true c = .sl true 7 ts by rw [hts]; rfl] at hrf hset
    rw [← hts] at hcc'
    refine ⟨⟨nnI hΩ⟩, _, (rdI hΩ hxs hcc).trans (congrArg some hen), ?_⟩
    cbv
    refine call_pure hΩ 3 hcc' rfl (fits _) hrf rfl ?_
    cbv
    refine ⟨⟨ixI hΩ h⟩, ⟨rfl, by subst hΩ; exact Nat.le_refl _⟩, ⟨by subst hΩ; show 0 + i < _; rw [hyli]; omega, hyai⟩, i + 1, by omega, by omega, Sbs.trans (Sbs.lastN (rows := [_]) rfl)
      (Sbs.mk rfl (by rw [← hset]; subst hΩ; show [some (Row.mk 1 ((ys i).set (0 + i) (A.sl true 7 (ts.take ts.length))) false)] = _; rw [List.take_length, Nat.zero_add]) ⟨rfl, rfl, incI hΩ (by omega), trivial⟩)⟩
  · replace h : i = n := by have := geI hΩ h; omega
    subst h
    cbv
    refine ⟨⟨rfl, by show i ≤ (ys i).length; omega⟩, .of ?_⟩
    rw [← hyn]
    subst hΩ
    show A.sl true 1 ((ys i).take i) = _
    rw [List.take_of_length_le (by omega)]
theorem c_toPack (o : Pck) (hs : o.Small) : PCtr PP n_laws_toPack [o.enc false] (o.enc true) := by
  obtain ⟨Ω, hΩ⟩ : ∃ Ω, Ω = std := ⟨_, rfl⟩
  obtain ⟨ps, ds, bs, hen, hps, hds, hbs⟩ := enc_raw o
  obtain ⟨ps', es, bs', hen2, hps2, hes2, hbs2⟩ := enc_own o
  have h1 := c_toVersion o.v
  have h2 := c_toStringS o.p hs.p
  have h3 := c_toTermSS o.d hs.d hs.e
  have h4 := c_toTermS o.b hs.b
  have r1 := roFAll (n := 1) (xs := o.p.map str) fun x hx => by obtain ⟨c, _, rfl⟩ := List.mem_map.1 hx; rfl
  have r2 := roFAll (n := 1) (xs := o.d.map (encTs true)) fun x hx => by obtain ⟨c, _, rfl⟩ := List.mem_map.1 hx; exact roFTs c
  have r3 : roFree (.sl true 7 (o.b.map Trm.enc)) = true := roFTs o.b
  rw [← hps] at hps2 h2 r1
  rw [← hes2] at h3 r2
  rw [← hbs] at hbs2 h4 r3
  rw [← hds] at h3
  rw [hps2, hbs2] at hen2
  rw [hen, hen2]
  refine PCtr.walk tab hΩ fn_laws_toPack rfl ?_
  have htab := tab
  have hmo := hmo
  generalize PP = P at *
  cbv
  refine call_pure hΩ 3 h1 rfl (fits _) rfl rfl ?_
  cbv
  refine call_pure hΩ 3 h2 rfl (fits _) r1 rfl ?_
  cbv
  refine call_pure hΩ 3 h3 rfl (fits _) r2 rfl ?_
  cbv
  refine call_pure hΩ 3 h4 rfl (fits _) r3 rfl ?_
  cbv
  refine ⟨⟨rfl, by subst hΩ; exact Nat.le_refl _⟩, ⟨rfl, by subst hΩ; exact Nat.le_refl _⟩, ⟨rfl, by subst hΩ; exact Nat.le_refl _⟩, .of ?_⟩
  subst hΩ
  show A.agg [str o.n, i64 o.v.a, i64 o.v.b, i64 o.v.c, i64 o.s, A.sl true 1 (ps.take ps.length), A.sl true 1 (es.take es.length), A.sl true 7 (bs.take bs.length)] = _
  rw [List.take_length, List.take_length, List.take_length]
  rfl
theorem c_toPackS (cs : List (Pck)) (hb : cs.length ≤ 1048576) (hl : ∀ l ∈ cs, l.Small) : PCtr PP n_laws_toPackS [.sl false 8 (cs.map (Pck.enc false))] (.sl true 8 (cs.map (Pck.enc true))) := by
  obtain ⟨Ω, hΩ⟩ : ∃ Ω, Ω = std := ⟨_, rfl⟩
  obtain ⟨xs, hxs⟩ : ∃ xs, xs = cs.map (Pck.enc false) := ⟨_, rfl⟩
  obtain ⟨zs, hzs⟩ : ∃ zs, zs = cs.map (Pck.enc true) := ⟨_, rfl⟩
  obtain ⟨n, hn⟩ : ∃ n, n = cs.length := ⟨_, rfl⟩
  have hlen : xs.length = n := by rw [hxs, hn, List.length_map]
  obtain ⟨ys, hys⟩ : ∃ ys : Nat → List A, ys = fill (Pck.enc true) (.agg [str [], i64 0, i64 0, i64 0, i64 0, .nil, .nil, .nil]) cs := ⟨_, rfl⟩
  have hyl : ∀ i, i ≤ n → (ys i).length = n := fun i hi => by rw [hys, hn]; exact fill_length (by omega)
  have hya : ∀ i, ∀ z ∈ ys i, isAggN 8 z = true := fun i => by rw [hys]; exact fill_all (fun _ => rfl) rfl
  have hy0 : List.replicate n (.agg [str [], i64 0, i64 0, i64 0, i64 0, .nil, .nil, .nil]) = ys 0 := by rw [hys, fill_zero, hn]
  have hyn : ys n = zs := by rw [hys, hn, fill_full, hzs]
  have hyset : ∀ i c, cs[i]? = some c → (ys i).set i ((Pck.enc true) c) = ys (i + 1) := fun i c h => by rw [hys]; exact fill_set h
  clear hys
  rw [← hxs, ← hzs]
  have hcl : ∀ c ∈ cs, PCtr PP n_laws_toPack [Pck.enc false c] (Pck.enc true c) := fun c h => c_toPack c (hl c h)
  refine PCtr.walk tab hΩ fn_laws_toPackS rfl ?_
  have htab := tab
  have hmo := hmo
  generalize PP = P at *
  cbv
  refine ⟨⟨by subst hΩ; show _ ∧ (0 : Int) ≤ xs.length ∧ 120 * ((xs.length : Int).toNat) ≤ _ ∧ (xs.length : Int).toNat ≤ 9223372036854775807; rw [hlen]; refine ⟨rfl, ?_, ?_, ?_⟩ <;> omega⟩,
    loopX htab hΩ (fun i : Nat => ⟨[(0, .sl false 8 xs), (3, .vw 0 0 n), (4, .sc (.int .i64 (Ω.int i)))], 23, [some ⟨8, ys i, false⟩]⟩) (fun i => i ≤ n) (fun i => n - i) 0 (Nat.zero_le _) (Sbs.mk rfl ?_ ?_) (fun i hi => ?_)⟩
  · rw [← hy0]; subst hΩ; subst hlen; rfl
  · subst hΩ; subst hlen; exact ⟨rfl, rfl, rfl, trivial⟩
  have hyli := hyl i hi
  have hyai := hya i
  cbv
  refine br (fun h => ?_) (fun h => ?_)
  · replace h : i < n := by have := ltI hΩ h; omega
    obtain ⟨c, hcc⟩ := at_of (cs := cs) (by omega : i < cs.length)
    have hset := hyset i c hcc
    cbv
    obtain ⟨ps, ds, bs, hen, hps, hds, hbs⟩ := enc_raw c
    obtain ⟨ps2, ds2, bs2, hen2, hps2, hds2, hbs2⟩ := enc_own c
    have hcc' := hcl c (List.mem_of_getElem? hcc)
    have hrf := roFP c
    rw [hen2] at hrf hset
    rw [hen, hen2] at hcc'
    refine ⟨⟨nnI hΩ⟩, _, (rdI hΩ hxs hcc).trans (congrArg some hen), ?_⟩
    cbv
    refine call_pure hΩ 3 hcc' rfl (fits _) hrf rfl ?_
    cbv
    refine ⟨⟨ixI hΩ h⟩, ⟨rfl, by subst hΩ; exact Nat.le_refl _⟩, ⟨rfl, by subst hΩ; exact Nat.le_refl _⟩, ⟨rfl, by subst hΩ; exact Nat.le_refl _⟩, ⟨by subst hΩ; show 0 + i < _; rw [hyli]; omega, hyai⟩, i + 1, by omega, by omega,
      Sbs.trans (Sbs.lastN (rows := [_, none, none]) rfl) (Sbs.trans (Sbs.lastN (rows := [_, none]) rfl) (Sbs.trans (Sbs.lastN (rows := [_]) rfl) (Sbs.mk rfl ?_ ⟨rfl, rfl, incI hΩ (by omega), trivial⟩)))⟩
    rw [← hset]
    subst hΩ
    show [some (Row.mk 8 ((ys i).set (0 + i) (A.agg [str c.n, i64 c.v.a, i64 c.v.b, i64 c.v.c, i64 c.s, A.sl true 1 (ps2.take ps2.length), A.sl true 1 (ds2.take ds2.length), A.sl true 7 (bs2.take bs2.length)])) false)] = _
    rw [List.take_length, List.take_length, List.take_length, Nat.zero_add]
  · replace h : i = n := by have := geI hΩ h; omega
    subst h
    cbv
    refine ⟨⟨rfl, by show i ≤ (ys i).length; omega⟩, .of ?_⟩
    rw [← hyn]
    subst hΩ
    show A.sl true 8 ((ys i).take i) = _
    rw [List.take_of_length_le (by omega)]
end Go.Proofs.YtomfmdfamlmfiaaGreat

/- Walks: what is equal is told so. Plain theorems. -/
set_option linter.unusedVariables false
set_option linter.unusedSimpArgs false
namespace Go.Proofs.YtomfmdfamlmfiaaGreat
open Go Go.Fw
set_option maxRecDepth 100000
theorem c_eqVersion (v : Ver) : PCtr PP n_laws_eqVersion [v.enc, v.enc] (boo true) := by
  obtain ⟨Ω, hΩ⟩ : ∃ Ω, Ω = std := ⟨_, rfl⟩
  have htab := tab
  have hmo := hmo
  refine PCtr.walk tab hΩ fn_laws_eqVersion rfl ?_
  generalize PP = P at *
  cbv
  repeat' (first | (refine br (fun h => (notT hΩ h).elim) (fun h => ?_); cbv) | (refine br (fun h => (ne_self hΩ h).elim) (fun h => ?_); cbv) | (refine br (fun h => (sne_self hΩ h).elim) (fun h => ?_); cbv) | (refine ⟨VC_drawn htab hΩ hmo (by kernel_rfl) ?_⟩; cbv))
  exact .same
theorem c_eqTerm (t : Trm) : PCtr PP n_laws_eqTerm [t.enc, t.enc] (boo true) := by
  obtain ⟨Ω, hΩ⟩ : ∃ Ω, Ω = std := ⟨_, rfl⟩
  have h1 := c_eqVersion t.l
  have h2 := c_eqVersion t.h
  have htab := tab
  have hmo := hmo
  refine PCtr.walk tab hΩ fn_laws_eqTerm rfl ?_
  generalize PP = P at *
  cbv
  repeat' (first | (refine br (fun h => (notT hΩ h).elim) (fun h => ?_); cbv) | (refine br (fun h => (ne_self hΩ h).elim) (fun h => ?_); cbv) | (refine br (fun h => (sne_self hΩ h).elim) (fun h => ?_); cbv) | (refine ⟨VC_drawn htab hΩ hmo (by kernel_rfl) ?_⟩; cbv) | (refine call_pure hΩ 3 h1 rfl (fits _) rfl rfl ?_; cbv) | (refine QCall_pure (k := 3) h1 rfl (fits _) rfl ?_; cbv) | (refine call_pure hΩ 3 h2 rfl (fits _) rfl rfl ?_; cbv) | (refine QCall_pure (k := 3) h2 rfl (fits _) rfl ?_; cbv))
  exact .same
theorem c_eqStringS (cs : List (List UInt8)) (hb : cs.length ≤ 1048576) : PCtr PP n_laws_eqStringS [.sl false 1 (cs.map (str)), .sl false 1 (cs.map (str))] (boo true) := by
  obtain ⟨Ω, hΩ⟩ : ∃ Ω, Ω = std := ⟨_, rfl⟩
  obtain ⟨xs, hxs⟩ : ∃ xs, xs = cs.map (str) := ⟨_, rfl⟩
  have hlen : xs.length = cs.length := by rw [hxs, List.length_map]
  rw [← hxs]
  have htab := tab
  have hmo := hmo
  refine PCtr.walk tab hΩ fn_laws_eqStringS rfl ?_
  generalize PP = P at *
  cbv
  refine br (fun h => (ne_self hΩ h).elim) (fun h => ?_)
  cbv
  refine loopX htab hΩ (fun i : Nat => ⟨[(0, .sl false 1 xs), (1, .sl false 1 xs), (5, .sc (.int .i64 (Ω.int i)))], 26, []⟩) (fun i => i ≤ cs.length) (fun i => cs.length - i) 0 (Nat.zero_le _) (Sbs.mk rfl rfl ⟨rfl, rfl, zeroI hΩ, trivial⟩) (fun i hi => ?_)
  cbv
  refine br (fun h => ?_) (fun h => ?_)
  · replace h := ltI hΩ h
    obtain ⟨c, hcc⟩ := at_of (cs := cs) (by omega : i < _)
    have hcm := List.mem_of_getElem? hcc
    cbv
    repeat' (first | (refine br (fun h => (notT hΩ h).elim) (fun h => ?_); cbv) | (refine br (fun h => (ne_self hΩ h).elim) (fun h => ?_); cbv) | (refine br (fun h => (sne_self hΩ h).elim) (fun h => ?_); cbv) | (refine ⟨VC_drawn htab hΩ hmo (by kernel_rfl) ?_⟩; cbv) | (refine ⟨⟨nnI hΩ⟩, _, rdI hΩ hxs hcc, ?_⟩; cbv))
    exact ⟨i + 1, by omega, by omega, Sbs.mk rfl rfl ⟨rfl, rfl, incI hΩ (by omega), trivial⟩⟩
  · cbv
    exact .same
theorem c_eqInt64S (cs : List (Int)) (hb : cs.length ≤ 1048576) : PCtr PP n_laws_eqInt64S [.sl false 1 (cs.map (i64)), .sl false 1 (cs.map (i64))] (boo true) := by
  obtain ⟨Ω, hΩ⟩ : ∃ Ω, Ω = std := ⟨_, rfl⟩
  obtain ⟨xs, hxs⟩ : ∃ xs, xs = cs.map (i64) := ⟨_, rfl⟩
  have hlen : xs.length = cs.length := by rw [hxs, List.length_map]
  rw [← hxs]
  have htab := tab
  have hmo := hmo
  refine PCtr.walk tab hΩ fn_laws_eqInt64S rfl ?_
  generalize PP = P at *
  cbv
  refine br (fun h => (ne_self hΩ h).elim) (fun h => ?_)
  cbv
  refine loopX htab hΩ (fun i : Nat => ⟨[(0, .sl false 1 xs), (1, .sl false 1 xs), (5, .sc (.int .i64 (Ω.int i)))], 26, []⟩) (fun i => i ≤ cs.length) (fun i => cs.length - i) 0 (Nat.zero_le _) (Sbs.mk rfl rfl ⟨rfl, rfl, zeroI hΩ, trivial⟩) (fun i hi => ?_)
  cbv
  refine br (fun h => ?_) (fun h => ?_)
  · replace h := ltI hΩ h
    obtain ⟨c, hcc⟩ := at_of (cs := cs) (by omega : i < _)
    have hcm := List.mem_of_getElem? hcc
    cbv
    repeat' (first | (refine br (fun h => (notT hΩ h).elim) (fun h => ?_); cbv) | (refine br (fun h => (ne_self hΩ h).elim) (fun h => ?_); cbv) | (refine br (fun h => (sne_self hΩ h).elim) (fun h => ?_); cbv) | (refine ⟨VC_drawn htab hΩ hmo (by kernel_rfl) ?_⟩; cbv) | (refine ⟨⟨nnI hΩ⟩, _, rdI hΩ hxs hcc, ?_⟩; cbv))
    exact ⟨i + 1, by omega, by omega, Sbs.mk rfl rfl ⟨rfl, rfl, incI hΩ (by omega), trivial⟩⟩
  · cbv
    exact .same
theorem c_eqTermS (cs : List (Trm)) (hb : cs.length ≤ 1048576) : PCtr PP n_laws_eqTermS [.sl false 7 (cs.map (Trm.enc)), .sl false 7 (cs.map (Trm.enc))] (boo true) := by
  obtain ⟨Ω, hΩ⟩ : ∃ Ω, Ω = std := ⟨_, rfl⟩
  obtain ⟨xs, hxs⟩ : ∃ xs, xs = cs.map (Trm.enc) := ⟨_, rfl⟩
  have hlen : xs.length = cs.length := by rw [hxs, List.length_map]
  rw [← hxs]
  have hc := c_eqTerm
  have htab := tab
  have hmo := hmo
  refine PCtr.walk tab hΩ fn_laws_eqTermS rfl ?_
  generalize PP = P at *
  cbv
  refine br (fun h => (ne_self hΩ h).elim) (fun h => ?_)
  cbv
  refine loopX htab hΩ (fun i : Nat => ⟨[(0, .sl false 7 xs), (1, .sl false 7 xs), (5, .sc (.int .i64 (Ω.int i)))], 27, []⟩) (fun i => i ≤ cs.length) (fun i => cs.length - i) 0 (Nat.zero_le _) (Sbs.mk rfl rfl ⟨rfl, rfl, zeroI hΩ, trivial⟩) (fun i hi => ?_)
  cbv
  refine br (fun h => ?_) (fun h => ?_)
  · replace h := ltI hΩ h
    obtain ⟨c, hcc⟩ := at_of (cs := cs) (by omega : i < _)
    have hcm := List.mem_of_getElem? hcc
    have hcc1 := hc c
    cbv
    repeat' (first | (refine br (fun h => (notT hΩ h).elim) (fun h => ?_); cbv) | (refine br (fun h => (ne_self hΩ h).elim) (fun h => ?_); cbv) | (refine br (fun h => (sne_self hΩ h).elim) (fun h => ?_); cbv) | (refine ⟨VC_drawn htab hΩ hmo (by kernel_rfl) ?_⟩; cbv) | (refine ⟨⟨nnI hΩ⟩, _, rdI hΩ hxs hcc, ?_⟩; cbv) | (refine call_pure hΩ 3 hcc1 rfl (fits _) rfl rfl ?_; cbv) | (refine QCall_pure (k := 3) hcc1 rfl (fits _) rfl ?_; cbv))
    exact ⟨i + 1, by omega, by omega, Sbs.mk rfl rfl ⟨rfl, rfl, incI hΩ (by omega), trivial⟩⟩
  · cbv
    exact .same
theorem c_eqTermSS (cs : List (List Trm)) (hb : cs.length ≤ 1048576) (hl : ∀ l ∈ cs, l.length ≤ 1048576) : PCtr PP n_laws_eqTermSS [.sl false 1 (cs.map (encTs false)), .sl false 1 (cs.map (encTs false))] (boo true) := by
  obtain ⟨Ω, hΩ⟩ : ∃ Ω, Ω = std := ⟨_, rfl⟩
  obtain ⟨xs, hxs⟩ : ∃ xs, xs = cs.map (encTs false) := ⟨_, rfl⟩
  have hlen : xs.length = cs.length := by rw [hxs, List.length_map]
  rw [← hxs]
  have hc : ∀ c ∈ cs, PCtr PP n_laws_eqTermS [.sl false 7 (c.map Trm.enc), .sl false 7 (c.map Trm.enc)] (boo true) := fun c h => c_eqTermS c (hl c h)
  have htab := tab
  have hmo := hmo
  refine PCtr.walk tab hΩ fn_laws_eqTermSS rfl ?_
  generalize PP = P at *
  cbv
  refine br (fun h => (ne_self hΩ h).elim) (fun h => ?_)
  cbv
  refine loopX htab hΩ (fun i : Nat => ⟨[(0, .sl false 1 xs), (1, .sl false 1 xs), (5, .sc (.int .i64 (Ω.int i)))], 27, []⟩) (fun i => i ≤ cs.length) (fun i => cs.length - i) 0 (Nat.zero_le _) (Sbs.mk rfl rfl ⟨rfl, rfl, zeroI hΩ, trivial⟩) (fun i hi => ?_)
  cbv
  refine br (fun h => ?_) (fun h => ?_)
  · replace h := ltI hΩ h
    obtain ⟨c, hcc⟩ := at_of (cs := cs) (by omega : i < _)
    have hcm := List.mem_of_getElem? hcc
    obtain ⟨ts, hen2, hts⟩ : ∃ ts, encTs false c = .sl false 7 ts ∧ ts = c.map Trm.enc := ⟨_, rfl, rfl⟩
    have hcc1 := hc c hcm
    rw [← hts] at hcc1
    cbv
    repeat' (first | (refine br (fun h => (notT hΩ h).elim) (fun h => ?_); cbv) | (refine br (fun h => (ne_self hΩ h).elim) (fun h => ?_); cbv) | (refine br (fun h => (sne_self hΩ h).elim) (fun h => ?_); cbv) | (refine ⟨VC_drawn htab hΩ hmo (by kernel_rfl) ?_⟩; cbv) | (refine ⟨⟨nnI hΩ⟩, _, (rdI hΩ hxs hcc).trans (congrArg some hen2), ?_⟩; cbv) | (refine call_pure hΩ 3 hcc1 rfl (fits _) rfl rfl ?_; cbv) | (refine QCall_pure (k := 3) hcc1 rfl (fits _) rfl ?_; cbv))
    exact ⟨i + 1, by omega, by omega, Sbs.mk rfl rfl ⟨rfl, rfl, incI hΩ (by omega), trivial⟩⟩
  · cbv
    exact .same
theorem c_eqPack (o : Pck) (hs : o.Small) : PCtr PP n_laws_eqPack [o.enc false, o.enc false] (boo true) := by
  obtain ⟨Ω, hΩ⟩ : ∃ Ω, Ω = std := ⟨_, rfl⟩
  obtain ⟨ps, ds, bs, hen, hps, hds, hbs⟩ := enc_raw o
  rw [hen]
  have h1 := c_eqVersion o.v
  have h2 := c_eqStringS o.p hs.p
  have h3 := c_eqTermSS o.d hs.d hs.e
  have h4 := c_eqTermS o.b hs.b
  rw [← hps] at h2
  rw [← hds] at h3
  rw [← hbs] at h4
  have htab := tab
  have hmo := hmo
  refine PCtr.walk tab hΩ fn_laws_eqPack rfl ?_
  generalize PP = P at *
  cbv
  repeat' (first | (refine br (fun h => (notT hΩ h).elim) (fun h => ?_); cbv) | (refine br (fun h => (ne_self hΩ h).elim) (fun h => ?_); cbv) | (refine br (fun h => (sne_self hΩ h).elim) (fun h => ?_); cbv) | (refine ⟨VC_drawn htab hΩ hmo (by kernel_rfl) ?_⟩; cbv) | (refine call_pure hΩ 3 h1 rfl (fits _) rfl rfl ?_; cbv) | (refine QCall_pure (k := 3) h1 rfl (fits _) rfl ?_; cbv) | (refine call_pure hΩ 3 h2 rfl (fits _) rfl rfl ?_; cbv) | (refine QCall_pure (k := 3) h2 rfl (fits _) rfl ?_; cbv) | (refine call_pure hΩ 3 h3 rfl (fits _) rfl rfl ?_; cbv) | (refine QCall_pure (k := 3) h3 rfl (fits _) rfl ?_; cbv) | (refine call_pure hΩ 3 h4 rfl (fits _) rfl rfl ?_; cbv) | (refine QCall_pure (k := 3) h4 rfl (fits _) rfl ?_; cbv))
  exact .same
theorem c_eqPackS (cs : List (Pck)) (hb : cs.length ≤ 1048576) (hl : ∀ l ∈ cs, l.Small) : PCtr PP n_laws_eqPackS [.sl false 8 (cs.map (Pck.enc false)), .sl false 8 (cs.map (Pck.enc false))] (boo true) := by
  obtain ⟨Ω, hΩ⟩ : ∃ Ω, Ω = std := ⟨_, rfl⟩
  obtain ⟨xs, hxs⟩ : ∃ xs, xs = cs.map (Pck.enc false) := ⟨_, rfl⟩
  have hlen : xs.length = cs.length := by rw [hxs, List.length_map]
  rw [← hxs]
  have hc : ∀ c ∈ cs, PCtr PP n_laws_eqPack [Pck.enc false c, Pck.enc false c] (boo true) := fun c h => c_eqPack c (hl c h)
  have htab := tab
  have hmo := hmo
  refine PCtr.walk tab hΩ fn_laws_eqPackS rfl ?_
  generalize PP = P at *
  cbv
  refine br (fun h => (ne_self hΩ h).elim) (fun h => ?_)
  cbv
  refine loopX htab hΩ (fun i : Nat => ⟨[(0, .sl false 8 xs), (1, .sl false 8 xs), (5, .sc (.int .i64 (Ω.int i)))], 27, []⟩) (fun i => i ≤ cs.length) (fun i => cs.length - i) 0 (Nat.zero_le _) (Sbs.mk rfl rfl ⟨rfl, rfl, zeroI hΩ, trivial⟩) (fun i hi => ?_)
  cbv
  refine br (fun h => ?_) (fun h => ?_)
  · replace h := ltI hΩ h
    obtain ⟨c, hcc⟩ := at_of (cs := cs) (by omega : i < _)
    have hcm := List.mem_of_getElem? hcc
    obtain ⟨ps, ds, bs, hen, hps, hds, hbs⟩ := enc_raw c
    have hcc1 := hc c hcm
    rw [hen] at hcc1
    cbv
    repeat' (first | (refine br (fun h => (notT hΩ h).elim) (fun h => ?_); cbv) | (refine br (fun h => (ne_self hΩ h).elim) (fun h => ?_); cbv) | (refine br (fun h => (sne_self hΩ h).elim) (fun h => ?_); cbv) | (refine ⟨VC_drawn htab hΩ hmo (by kernel_rfl) ?_⟩; cbv) | (refine ⟨⟨nnI hΩ⟩, _, (rdI hΩ hxs hcc).trans (congrArg some hen), ?_⟩; cbv) | (refine call_pure hΩ 3 hcc1 rfl (fits _) rfl rfl ?_; cbv) | (refine QCall_pure (k := 3) hcc1 rfl (fits _) rfl ?_; cbv))
    exact ⟨i + 1, by omega, by omega, Sbs.mk rfl rfl ⟨rfl, rfl, incI hΩ (by omega), trivial⟩⟩
  · cbv
    exact .same
end Go.Proofs.YtomfmdfamlmfiaaGreat

/- Walks: the marks' text. Plain theorems. -/
set_option linter.unusedVariables false
set_option linter.unusedSimpArgs false
namespace Go.Proofs.YtomfmdfamlmfiaaGreat
open Go Go.Fw
set_option maxRecDepth 100000
def mkL (k : Nat) (out : List UInt8) : List UInt8 := if k = 0 then out else mkL (k / 10) (UInt8.ofNat (48 + k % 10) :: out)
termination_by k
decreasing_by omega
def markT (k : Int) : List UInt8 := if k ≤ 0 then [109, 48] else 109 :: mkL k.toNat []
theorem mark_byte (k : Nat) : IntKind.u8.wrap (IntKind.i64.wrap (48 + Int.tmod (k : Int) 10)) = ((UInt8.ofNat (48 + k % 10)).toNat : Int) := by
  have h1 : Int.tmod (k : Int) 10 = ((k % 10 : Nat) : Int) := by rw [Int.tmod_eq_emod_of_nonneg (by omega)]; omega
  have h2 : k % 10 < 10 := Nat.mod_lt _ (by omega)
  have h3 : (UInt8.ofNat (48 + k % 10)).toNat = 48 + k % 10 := by simp; omega
  rw [h1, wrap64 (by omega) (by omega), h3]
  have h4 : ∀ y : Int, IntKind.u8.wrap y = y % 256 := fun y => rfl
  rw [h4]
  omega
theorem c_markText (k : Int) (hk : k ≤ 1152921504606846976) : PCtr PP n_laws_markText [i64 k] (str (markT k)) := by
  obtain ⟨Ω, hΩ⟩ : ∃ Ω, Ω = std := ⟨_, rfl⟩
  obtain ⟨r, hr⟩ : ∃ r, r = markT k := ⟨_, rfl⟩
  rw [← hr]
  have htab := tab
  refine PCtr.walk tab hΩ fn_laws_markText rfl ?_
  generalize PP = P at *
  cbv
  refine br (fun h => ?_) (fun h => ?_)
  · replace h : r = [109, 48] := by rw [hr, markT, if_pos (leI_t hΩ h)]
    cbv
    exact .of (congrArg str h.symm)
  obtain ⟨n, hn, hrn, hnb⟩ : ∃ n : Nat, k = Ω.int n ∧ r = 109 :: mkL n [] ∧ n ≤ 1152921504606846976 := by
    have h := leI_f hΩ h
    refine ⟨k.toNat, ?_, by rw [hr, markT, if_neg (by omega)], by omega⟩
    subst hΩ
    exact (Int.toNat_of_nonneg (by omega)).symm
  subst hn
  cbv
  refine loopX htab hΩ (fun i : Nat × List UInt8 => ⟨[(0, .sc (.int .i64 (Ω.int i.1))), (3, .sc (.string (mkS i.2)))], 20, []⟩) (fun i => i.1 + i.2.length ≤ 1152921504606846976 ∧ r = 109 :: mkL i.1 i.2) (fun i => i.1) (n, []) ⟨by simpa using hnb, hrn⟩
    (Sbs.mk rfl rfl ⟨rfl, rfl, trivial⟩) ?_
  rintro ⟨m, out⟩ ⟨hm, he⟩
  dsimp only at hm he
  cbv
  refine br (fun h => ?_) (fun h => ?_)
  · have hm0 : m ≠ 0 := by subst hΩ; have h : (0 : Int) < (m : Int) := gt_t h; omega
    rw [mkL, if_neg hm0] at he
    obtain ⟨b, hb⟩ : ∃ b, b = UInt8.ofNat (48 + m % 10) := ⟨_, rfl⟩
    rw [← hb] at he
    have hb2 : Ω.wrap .u8 (Ω.ar .add .i64 48 (Ω.ar .rem .i64 (Ω.int m) 10)) = (b.toNat : Int) := by subst hΩ; rw [hb]; exact mark_byte m
    have hq : i64 (Ω.ar .quo .i64 (Ω.int m) 10) = i64 (Ω.int (m / 10)) := by
      subst hΩ
      show i64 (IntKind.i64.wrap ((m : Int).tdiv 10)) = i64 ((m / 10 : Nat) : Int)
      rw [show (m : Int).tdiv 10 = ((m / 10 : Nat) : Int) by rw [Int.tdiv_eq_ediv_of_nonneg (by omega)]; omega, wrap64 (by omega) (by omega)]
    have hm2 : m / 10 + (b :: out).length ≤ 1152921504606846976 := by simp only [List.length_cons]; omega
    have hm3 : m / 10 < m := by omega
    have hl : (([b] : List UInt8).length + out.length : Nat) ≤ 9223372036854775807 := by simp only [List.length_singleton]; omega
    have hl2 : ((([b] : List UInt8).length + out.length : Nat) : Int) ≤ 9223372036854775807 := by omega
    cbv
    refine ⟨⟨by decide⟩, [b], ⟨Nat.le_refl 1, congrArg (fun v => [A.sc (.int .u8 v)]) hb2⟩, ?_⟩
    cbv
    refine ⟨⟨hl2⟩, ⟨by decide⟩, (m / 10, b :: out), ⟨hm2, he⟩, hm3, Sbs.mkL (rows := []) rfl rfl rfl ⟨hq, ?_, trivial⟩⟩
    subst hΩ; rfl
  · have hm0 : m = 0 := by subst hΩ; have h : (m : Int) ≤ 0 := gt_f h; omega
    rw [mkL, if_pos hm0] at he
    have hl2 : ((([109] : List UInt8).length + out.length : Nat) : Int) ≤ 9223372036854775807 := by simp only [List.length_singleton]; omega
    cbv
    refine ⟨⟨hl2⟩, .of ?_⟩
    rw [he]; subst hΩ; rfl
end Go.Proofs.YtomfmdfamlmfiaaGreat

/- Walks: marks. Plain theorems. -/
set_option linter.unusedVariables false
set_option linter.unusedSimpArgs false
namespace Go.Proofs.YtomfmdfamlmfiaaGreat
open Go Go.Fw
set_option maxRecDepth 100000
theorem c_markStringS (cs : List (List UInt8)) (k : Int) (h0 : 0 ≤ k) (h1 : k + psum (fun _ => 1) cs cs.length ≤ 1099511627776) (hb : cs.length ≤ 1048576) : ECtr PP n_laws_markStringS [.sl true 1 (cs.map (str)), i64 k] (i64 (k + psum (fun _ => 1) cs cs.length)) := by
  obtain ⟨Ω, hΩ⟩ : ∃ Ω, Ω = std := ⟨_, rfl⟩
  obtain ⟨xs, hxs⟩ : ∃ xs, xs = cs.map (str) := ⟨_, rfl⟩
  have hlen : xs.length = cs.length := by rw [hxs, List.length_map]
  have hna : ∀ y ∈ xs, vStore.isAggA y = false := fun y hy => by rw [hxs] at hy; obtain ⟨c, _, rfl⟩ := List.mem_map.1 hy; rfl
  obtain ⟨kf, hkf⟩ : ∃ kf : Nat → Int, kf = fun i => k + psum (fun _ => 1) cs i := ⟨_, rfl⟩
  have hk0 : kf 0 = k := by rw [hkf]; simp [psum_zero]
  have hkn : kf cs.length = k + psum (fun _ => 1) cs cs.length := by rw [hkf]
  have hkp : ∀ i, 0 ≤ kf i ∧ kf i ≤ 1099511627776 := fun i => by rw [hkf]; have := psum_le (f := fun _ => 1) (d := cs) i; simp only; omega
  have hks : ∀ i c, cs[i]? = some c → kf (i + 1) = kf i + ((fun _ => 1) c : Nat) := fun i c h => by rw [hkf]; simp only; rw [psum_at h]; omega
  clear hkf
  rw [← hkn, ← hxs]
  have hle : Ω.len xs = xs.length := by subst hΩ; rfl
  have hc := c_markText
  have htab := tab
  have hmo := hmo
  refine ECtr.walk tab hΩ 3 fn_laws_markStringS rfl rfl ?_
  generalize PP = P at *
  cbv
  refine loopX htab hΩ (fun i : Nat × List A => ⟨[(0, .vw 0 0 (Ω.len xs)), (1, .sc (.int .i64 (kf i.1))), (5, .sc (.int .i64 (Ω.int i.1)))], 20, [some ⟨1, i.2, false⟩]⟩)
    (fun i => i.1 ≤ cs.length ∧ i.2.length = cs.length ∧ (∀ q, i.1 ≤ q → i.2[q]? = xs[q]?) ∧ (∀ y ∈ i.2, vStore.isAggA y = false)) (fun i => cs.length - i.1) (0, xs) ⟨Nat.zero_le _, hlen, fun _ _ => rfl, hna⟩ (Sbs.mk rfl rfl ⟨rfl, congrArg i64 hk0.symm, zeroI hΩ, trivial⟩) ?_
  rintro ⟨i, ys⟩ ⟨hi, hyl, hya, hyn⟩
  dsimp only at hi hyl hya hyn
  dsimp only
  have hki := hkp i
  have hki1 := hkp (i + 1)
  cbv
  refine br (fun h => ?_) (fun h => ?_) <;> cbv
  · replace h := ltI hΩ h
    obtain ⟨c, hcc⟩ := at_of (cs := cs) (by omega : i < cs.length)
    have hcm := List.mem_of_getElem? hcc
    have hkc := hks i c hcc
    have hlk : Like xs i ys := ⟨by omega, fun q hq => hya q (by omega)⟩
    have hyi : ys[i]? = some ((str) c) := by rw [hya i (Nat.le_refl _), hxs, List.getElem?_map, hcc]; rfl
    have hil : i < Ω.len xs := by rw [hle]; exact h
    replace hkc : kf (i + 1) = kf i + 1 := by simpa using hkc
    have hy1 := (addV hΩ hki.1 (by omega)).trans hkc.symm
    refine call_pure hΩ 3 (hc (kf i) (by omega)) rfl (fits _) rfl rfl ?_
    generalize markT (kf i) = mt
    cbv
    have hL := hlk.set hΩ (z := str mt)
    have hLl := hL.len
    refine ⟨⟨ixI hΩ hil⟩, ⟨by subst hΩ; show 0 + i < ys.length; omega, hyn⟩, (i + 1, Ω.set ys (Ω.plus 0 (Ω.nat (Ω.int i))) (str mt)), ⟨by dsimp only; omega, by dsimp only; omega, fun q hq => hL.at' q hq, setNA hΩ hyn rfl⟩, by dsimp only; omega,
      Sbs.mk rfl rfl ⟨rfl, congrArg i64 hy1, incI hΩ (by omega), trivial⟩⟩
  · have hj : i = cs.length := by have := geI hΩ h; omega
    subst hj
    exact .same
theorem c_markTermS (cs : List (Trm)) (k : Int) (h0 : 0 ≤ k) (h1 : k + psum (fun _ => 7) cs cs.length ≤ 1099511627776) (hb : cs.length ≤ 1048576) : ECtr PP n_laws_markTermS [.sl true 7 (cs.map (Trm.enc)), i64 k] (i64 (k + psum (fun _ => 7) cs cs.length)) := by
  obtain ⟨Ω, hΩ⟩ : ∃ Ω, Ω = std := ⟨_, rfl⟩
  obtain ⟨xs, hxs⟩ : ∃ xs, xs = cs.map (Trm.enc) := ⟨_, rfl⟩
  have hlen : xs.length = cs.length := by rw [hxs, List.length_map]
  have hna : ∀ y ∈ xs, True := fun y hy => by trivial
  obtain ⟨kf, hkf⟩ : ∃ kf : Nat → Int, kf = fun i => k + psum (fun _ => 7) cs i := ⟨_, rfl⟩
  have hk0 : kf 0 = k := by rw [hkf]; simp [psum_zero]
  have hkn : kf cs.length = k + psum (fun _ => 7) cs cs.length := by rw [hkf]
  have hkp : ∀ i, 0 ≤ kf i ∧ kf i ≤ 1099511627776 := fun i => by rw [hkf]; have := psum_le (f := fun _ => 7) (d := cs) i; simp only; omega
  have hks : ∀ i c, cs[i]? = some c → kf (i + 1) = kf i + ((fun _ => 7) c : Nat) := fun i c h => by rw [hkf]; simp only; rw [psum_at h]; omega
  clear hkf
  rw [← hkn, ← hxs]
  have hle : Ω.len xs = xs.length := by subst hΩ; rfl
  have hc := c_markText
  have htab := tab
  have hmo := hmo
  refine ECtr.walk tab hΩ 3 fn_laws_markTermS rfl rfl ?_
  generalize PP = P at *
  cbv
  refine loopX htab hΩ (fun i : Nat × List A => ⟨[(0, .vw 0 0 (Ω.len xs)), (1, .sc (.int .i64 (kf i.1))), (5, .sc (.int .i64 (Ω.int i.1)))], 69, [some ⟨7, i.2, false⟩]⟩)
    (fun i => i.1 ≤ cs.length ∧ i.2.length = cs.length ∧ (∀ q, i.1 ≤ q → i.2[q]? = xs[q]?)) (fun i => cs.length - i.1) (0, xs) ⟨Nat.zero_le _, hlen, fun _ _ => rfl⟩ (Sbs.mk rfl rfl ⟨rfl, congrArg i64 hk0.symm, zeroI hΩ, trivial⟩) ?_
  rintro ⟨i, ys⟩ ⟨hi, hyl, hya⟩
  dsimp only at hi hyl hya
  dsimp only
  have hki := hkp i
  have hki1 := hkp (i + 1)
  cbv
  refine br (fun h => ?_) (fun h => ?_) <;> cbv
  · replace h := ltI hΩ h
    obtain ⟨c, hcc⟩ := at_of (cs := cs) (by omega : i < cs.length)
    have hcm := List.mem_of_getElem? hcc
    have hkc := hks i c hcc
    have hlk : Like xs i ys := ⟨by omega, fun q hq => hya q (by omega)⟩
    have hyi : ys[i]? = some ((Trm.enc) c) := by rw [hya i (Nat.le_refl _), hxs, List.getElem?_map, hcc]; rfl
    have hil : i < Ω.len xs := by rw [hle]; exact h
    replace hkc : kf (i + 1) = kf i + 7 := by simpa using hkc
    have hy1 := (addV7 hΩ hki.1 (by omega)).trans hkc.symm
    have hlt : i < ys.length := by omega
    refine call_pure hΩ 3 (hc (kf i) (by omega)) rfl (fits _) rfl rfl ?_
    generalize markT (kf i) = mt
    cbv
    refine ⟨⟨ixI hΩ hil⟩, _, atI hΩ hyi, ?_⟩
    cbv
    refine ⟨⟨ixI hΩ hil⟩, _, setI hΩ hlt, ?_⟩
    cbv
    refine ⟨⟨ixI hΩ hil⟩, _, setI hΩ (setI_lt hΩ hlt), ?_⟩
    cbv
    refine ⟨⟨ixI hΩ hil⟩, _, setI hΩ (setI_lt hΩ (setI_lt hΩ hlt)), ?_⟩
    cbv
    refine ⟨⟨ixI hΩ hil⟩, _, setI hΩ (setI_lt hΩ (setI_lt hΩ (setI_lt hΩ hlt))), ?_⟩
    cbv
    refine ⟨⟨ixI hΩ hil⟩, _, setI hΩ (setI_lt hΩ (setI_lt hΩ (setI_lt hΩ (setI_lt hΩ hlt)))), ?_⟩
    cbv
    refine ⟨⟨ixI hΩ hil⟩, _, setI hΩ (setI_lt hΩ (setI_lt hΩ (setI_lt hΩ (setI_lt hΩ (setI_lt hΩ hlt))))), ?_⟩
    cbv
    refine ⟨(i + 1, _), ⟨?pa, ?pb, ?pc⟩, ?pd, Sbs.mk rfl rfl ⟨rfl, congrArg i64 hy1, incI hΩ (by omega), trivial⟩⟩
    case pa => dsimp only; omega
    case pd => dsimp only; omega
    case pb => exact (((((((hlk.set hΩ).set hΩ).set hΩ).set hΩ).set hΩ).set hΩ).set hΩ).len.trans hlen
    case pc => exact fun q hq => (((((((hlk.set hΩ).set hΩ).set hΩ).set hΩ).set hΩ).set hΩ).set hΩ).at' q hq
  · have hj : i = cs.length := by have := geI hΩ h; omega
    subst hj
    exact .same
theorem c_markTermSS (cs : List (List Trm)) (k : Int) (h0 : 0 ≤ k) (h1 : k + psum (fun l => 7 * l.length) cs cs.length ≤ 1099511627776) (hb : cs.length ≤ 1048576) (hl : ∀ l ∈ cs, l.length ≤ 1048576) : ECtr PP n_laws_markTermSS [.sl true 1 (cs.map (encTs true)), i64 k] (i64 (k + psum (fun l => 7 * l.length) cs cs.length)) := by
  obtain ⟨Ω, hΩ⟩ : ∃ Ω, Ω = std := ⟨_, rfl⟩
  obtain ⟨xs, hxs⟩ : ∃ xs, xs = cs.map (encTs true) := ⟨_, rfl⟩
  have hlen : xs.length = cs.length := by rw [hxs, List.length_map]
  have hna : ∀ y ∈ xs, vStore.isAggA y = false := fun y hy => by rw [hxs] at hy; obtain ⟨c, _, rfl⟩ := List.mem_map.1 hy; rfl
  obtain ⟨kf, hkf⟩ : ∃ kf : Nat → Int, kf = fun i => k + psum (fun l => 7 * l.length) cs i := ⟨_, rfl⟩
  have hk0 : kf 0 = k := by rw [hkf]; simp [psum_zero]
  have hkn : kf cs.length = k + psum (fun l => 7 * l.length) cs cs.length := by rw [hkf]
  have hkp : ∀ i, 0 ≤ kf i ∧ kf i ≤ 1099511627776 := fun i => by rw [hkf]; have := psum_le (f := fun l => 7 * l.length) (d := cs) i; simp only; omega
  have hks : ∀ i c, cs[i]? = some c → kf (i + 1) = kf i + ((fun l => 7 * l.length) c : Nat) := fun i c h => by rw [hkf]; simp only; rw [psum_at h]; omega
  clear hkf
  rw [← hkn, ← hxs]
  have hle : Ω.len xs = xs.length := by subst hΩ; rfl
  have hc := c_markText
  have hmT := c_markTermS
  have htab := tab
  have hmo := hmo
  refine ECtr.walk tab hΩ 3 fn_laws_markTermSS rfl rfl ?_
  generalize PP = P at *
  cbv
  refine loopX htab hΩ (fun i : Nat × List A => ⟨[(0, .vw 0 0 (Ω.len xs)), (1, .sc (.int .i64 (kf i.1))), (5, .sc (.int .i64 (Ω.int i.1)))], 19, [some ⟨1, i.2, false⟩]⟩)
    (fun i => i.1 ≤ cs.length ∧ i.2.length = cs.length ∧ (∀ q, i.1 ≤ q → i.2[q]? = xs[q]?) ∧ (∀ y ∈ i.2, vStore.isAggA y = false)) (fun i => cs.length - i.1) (0, xs) ⟨Nat.zero_le _, hlen, fun _ _ => rfl, hna⟩ (Sbs.mk rfl rfl ⟨rfl, congrArg i64 hk0.symm, zeroI hΩ, trivial⟩) ?_
  rintro ⟨i, ys⟩ ⟨hi, hyl, hya, hyn⟩
  dsimp only at hi hyl hya hyn
  dsimp only
  have hki := hkp i
  have hki1 := hkp (i + 1)
  cbv
  refine br (fun h => ?_) (fun h => ?_) <;> cbv
  · replace h := ltI hΩ h
    obtain ⟨c, hcc⟩ := at_of (cs := cs) (by omega : i < cs.length)
    have hcm := List.mem_of_getElem? hcc
    have hkc := hks i c hcc
    have hlk : Like xs i ys := ⟨by omega, fun q hq => hya q (by omega)⟩
    have hyi : ys[i]? = some ((encTs true) c) := by rw [hya i (Nat.le_refl _), hxs, List.getElem?_map, hcc]; rfl
    have hil : i < Ω.len xs := by rw [hle]; exact h
    obtain ⟨ts, hen, hts⟩ : ∃ ts, encTs true c = .sl true 7 ts ∧ ts = c.map Trm.enc := ⟨_, rfl, rfl⟩
    replace hkc : kf (i + 1) = kf i + (7 * c.length : Nat) := hkc
    have hm := hmT c (kf i) hki.1 (by rw [psum_const]; show kf i + ((7 * c.length : Nat) : Int) ≤ _; omega) (hl c hcm)
    rw [psum_const, ← hkc, ← hts] at hm
    refine ⟨⟨ixI hΩ hil⟩, _, (atI hΩ hyi).trans (congrArg some hen), ?_⟩
    cbv
    refine call_eat2 (row := ⟨7, ts, false⟩) hΩ 3 hm rfl rfl (by subst hΩ; rfl) rfl (fits _) rfl rfl ?_
    cbv
    have hL := hlk.set hΩ (z := .un)
    have hLl := hL.len
    exact ⟨(i + 1, Ω.set ys (Ω.plus 0 (Ω.nat (Ω.int i))) .un), ⟨by dsimp only; omega, by dsimp only; omega, fun q hq => hL.at' q hq, setNA hΩ hyn rfl⟩, by dsimp only; omega,
      Sbs.trans (Sbs.lastN (rows := [_]) rfl) (Sbs.mk rfl rfl ⟨rfl, rfl, incI hΩ (by omega), trivial⟩)⟩
  · have hj : i = cs.length := by have := geI hΩ h; omega
    subst hj
    exact .same
/-- How many marks a package takes. -/
def Pck.cnt (o : Pck) : Nat := 5 + psum (fun _ => 1) o.p o.p.length + psum (fun l : List Trm => 7 * l.length) o.d o.d.length + psum (fun _ => 7) o.b o.b.length
theorem cnt_split {y z : Int} {o : Pck} (h : z = y + (o.cnt : Nat)) : ∃ y1 y2 y3 : Int, y1 = y + 5 ∧ y2 = y1 + (psum (fun _ => 1) o.p o.p.length : Nat) ∧ y3 = y2 + (psum (fun l : List Trm => 7 * l.length) o.d o.d.length : Nat) ∧ z = y3 + (psum (fun _ => 7) o.b o.b.length : Nat) ∧ y ≤ y1 ∧ y1 ≤ y2 ∧ y2 ≤ y3 ∧ y3 ≤ z :=
  ⟨_, _, _, rfl, rfl, rfl, by rw [h]; unfold Pck.cnt; omega, by omega, by omega, by omega, by rw [h]; unfold Pck.cnt; omega⟩
theorem c_markPackS (cs : List (Pck)) (k : Int) (h0 : 0 ≤ k) (h1 : k + psum (Pck.cnt) cs cs.length ≤ 1099511627776) (hb : cs.length ≤ 1048576) (hl : ∀ l ∈ cs, l.Small) : ECtr PP n_laws_markPackS [.sl true 8 (cs.map (Pck.enc true)), i64 k] (i64 (k + psum (Pck.cnt) cs cs.length)) := by
  obtain ⟨Ω, hΩ⟩ : ∃ Ω, Ω = std := ⟨_, rfl⟩
  obtain ⟨xs, hxs⟩ : ∃ xs, xs = cs.map (Pck.enc true) := ⟨_, rfl⟩
  have hlen : xs.length = cs.length := by rw [hxs, List.length_map]
  have hna : ∀ y ∈ xs, True := fun y hy => by trivial
  obtain ⟨kf, hkf⟩ : ∃ kf : Nat → Int, kf = fun i => k + psum (Pck.cnt) cs i := ⟨_, rfl⟩
  have hk0 : kf 0 = k := by rw [hkf]; simp [psum_zero]
  have hkn : kf cs.length = k + psum (Pck.cnt) cs cs.length := by rw [hkf]
  have hkp : ∀ i, 0 ≤ kf i ∧ kf i ≤ 1099511627776 := fun i => by rw [hkf]; have := psum_le (f := Pck.cnt) (d := cs) i; simp only; omega
  have hks : ∀ i c, cs[i]? = some c → kf (i + 1) = kf i + ((Pck.cnt) c : Nat) := fun i c h => by rw [hkf]; simp only; rw [psum_at h]; omega
  clear hkf
  rw [← hkn, ← hxs]
  have hle : Ω.len xs = xs.length := by subst hΩ; rfl
  have hc := c_markText
  have hcl : ∀ i c, cs[i]? = some c → ∃ y1 y2 y3 : Int, kf i + 5 = y1 ∧ ECtr PP n_laws_markStringS [.sl true 1 (c.p.map str), i64 y1] (i64 y2) ∧ ECtr PP n_laws_markTermSS [.sl true 1 (c.d.map (encTs true)), i64 y2] (i64 y3) ∧ ECtr PP n_laws_markTermS [.sl true 7 (c.b.map Trm.enc), i64 y3] (i64 (kf (i + 1))) := fun i c h => by
    obtain ⟨y1, y2, y3, hy1, hy2, hy3, hy4, hb1, hb2, hb3, hb4⟩ := cnt_split (hks i c h)
    have hsm := hl c (List.mem_of_getElem? h)
    have hki := hkp i
    have hki1 := hkp (i + 1)
    have hmp := c_markStringS c.p y1 (by omega) (by omega) hsm.p
    have hmd := c_markTermSS c.d y2 (by omega) (by omega) hsm.d hsm.e
    have hmb := c_markTermS c.b y3 (by omega) (by omega) hsm.b
    rw [← hy2] at hmp
    rw [← hy3] at hmd
    rw [← hy4] at hmb
    exact ⟨y1, y2, y3, hy1.symm, hmp, hmd, hmb⟩
  have htab := tab
  have hmo := hmo
  refine ECtr.walk tab hΩ 3 fn_laws_markPackS rfl rfl ?_
  generalize PP = P at *
  cbv
  refine loopX htab hΩ (fun i : Nat × List A => ⟨[(0, .vw 0 0 (Ω.len xs)), (1, .sc (.int .i64 (kf i.1))), (5, .sc (.int .i64 (Ω.int i.1)))], 73, [some ⟨8, i.2, false⟩]⟩)
    (fun i => i.1 ≤ cs.length ∧ i.2.length = cs.length ∧ (∀ q, i.1 ≤ q → i.2[q]? = xs[q]?)) (fun i => cs.length - i.1) (0, xs) ⟨Nat.zero_le _, hlen, fun _ _ => rfl⟩ (Sbs.mk rfl rfl ⟨rfl, congrArg i64 hk0.symm, zeroI hΩ, trivial⟩) ?_
  rintro ⟨i, ys⟩ ⟨hi, hyl, hya⟩
  dsimp only at hi hyl hya
  dsimp only
  have hki := hkp i
  have hki1 := hkp (i + 1)
  cbv
  refine br (fun h => ?_) (fun h => ?_) <;> cbv
  · replace h := ltI hΩ h
    obtain ⟨c, hcc⟩ := at_of (cs := cs) (by omega : i < cs.length)
    have hcm := List.mem_of_getElem? hcc
    have hkc := hks i c hcc
    have hlk : Like xs i ys := ⟨by omega, fun q hq => hya q (by omega)⟩
    have hyi : ys[i]? = some ((Pck.enc true) c) := by rw [hya i (Nat.le_refl _), hxs, List.getElem?_map, hcc]; rfl
    have hil : i < Ω.len xs := by rw [hle]; exact h
    obtain ⟨y1, y2, y3, hy1, hmp, hmd, hmb⟩ := hcl i c hcc
    have hlt : i < ys.length := by omega
    have hy1' := (addV5 hΩ hki.1 (by omega)).trans hy1
    refine call_pure hΩ 3 (hc (kf i) (by omega)) rfl (fits _) rfl rfl ?_
    generalize markT (kf i) = mt
    obtain ⟨ps, ds, bs, hen, hps, hds, hbs⟩ := enc_own c
    rw [← hps] at hmp
    rw [← hds] at hmd
    rw [← hbs] at hmb
    cbv
    refine ⟨⟨ixI hΩ hil⟩, _, (atI hΩ hyi).trans (congrArg some hen), ?_⟩
    cbv
    refine ⟨⟨ixI hΩ hil⟩, _, setI hΩ hlt, ?_⟩
    cbv
    refine ⟨⟨ixI hΩ hil⟩, _, setI hΩ (setI_lt hΩ hlt), ?_⟩
    cbv
    refine ⟨⟨ixI hΩ hil⟩, _, setI hΩ (setI_lt hΩ (setI_lt hΩ hlt)), ?_⟩
    cbv
    refine ⟨⟨ixI hΩ hil⟩, _, setI hΩ (setI_lt hΩ (setI_lt hΩ (setI_lt hΩ hlt))), ?_⟩
    cbv
    refine ⟨⟨ixI hΩ hil⟩, _, setI hΩ (setI_lt hΩ (setI_lt hΩ (setI_lt hΩ (setI_lt hΩ hlt)))), ?_⟩
    cbv
    refine call_eat2 (row := ⟨1, ps, false⟩) hΩ 3 hmp rfl rfl (by subst hΩ; rfl) rfl (fitsE (congrArg (fun z => [i64 z]) hy1')) rfl rfl ?_
    cbv
    refine ⟨⟨ixI hΩ hil⟩, _, setI hΩ (setI_lt hΩ (setI_lt hΩ (setI_lt hΩ (setI_lt hΩ (setI_lt hΩ hlt))))), ?_⟩
    cbv
    refine call_eat2 (row := ⟨1, ds, false⟩) hΩ 3 hmd rfl rfl (by subst hΩ; rfl) rfl (fits _) rfl rfl ?_
    cbv
    refine ⟨⟨ixI hΩ hil⟩, _, setI hΩ (setI_lt hΩ (setI_lt hΩ (setI_lt hΩ (setI_lt hΩ (setI_lt hΩ (setI_lt hΩ hlt)))))), ?_⟩
    cbv
    refine call_eat2 (row := ⟨7, bs, false⟩) hΩ 3 hmb rfl rfl (by subst hΩ; rfl) rfl (fits _) rfl rfl ?_
    cbv
    refine ⟨(i + 1, _), ⟨?pa, ?pb, ?pc⟩, ?pd, Sbs.trans (Sbs.lastN (rows := [_, none, none]) rfl) (Sbs.trans (Sbs.lastN (rows := [_, none]) rfl) (Sbs.trans (Sbs.lastN (rows := [_]) rfl) (Sbs.mk rfl rfl ⟨rfl, rfl, incI hΩ (by omega), trivial⟩)))⟩
    case pa => dsimp only; omega
    case pd => dsimp only; omega
    case pb => exact ((((((((hlk.set hΩ).set hΩ).set hΩ).set hΩ).set hΩ).set hΩ).set hΩ).set hΩ).len.trans hlen
    case pc => exact fun q hq => ((((((((hlk.set hΩ).set hΩ).set hΩ).set hΩ).set hΩ).set hΩ).set hΩ).set hΩ).at' q hq

  · have hj : i = cs.length := by have := geI hΩ h; omega
    subst hj
    exact .same
end Go.Proofs.YtomfmdfamlmfiaaGreat

/- Walks: numbers are marked and held. Plain theorems. -/
set_option linter.unusedVariables false
set_option linter.unusedSimpArgs false
namespace Go.Proofs.YtomfmdfamlmfiaaGreat
open Go Go.Fw
set_option maxRecDepth 100000
theorem c_markInt64S (cs : List Int) (k : Int) (h0 : 0 ≤ k) (h1 : k ≤ 2199023255552) (hb : cs.length ≤ 1048576) :
    MCtr PP n_laws_markInt64S [.sl true 1 (cs.map i64), i64 k] (i64 (k + cs.length)) [.sl true 1 (marksI k cs.length), i64 k] := by
  obtain ⟨Ω, hΩ⟩ : ∃ Ω, Ω = std := ⟨_, rfl⟩
  obtain ⟨n, hn⟩ : ∃ n, n = cs.length := ⟨_, rfl⟩
  obtain ⟨ms, hms⟩ : ∃ ms, ms = marksI k n := ⟨_, rfl⟩
  obtain ⟨xs, hxs⟩ : ∃ xs, xs = cs.map i64 := ⟨_, rfl⟩
  have hlen : xs.length = n := by rw [hxs, hn, List.length_map]
  have hml : ms.length = xs.length := by rw [hms, marksI_length, hlen]
  obtain ⟨ys, hys⟩ : ∃ ys, ys = halfA ms xs := ⟨_, rfl⟩
  have hyl : ∀ i, i ≤ n → (ys i).length = n := fun i hi => by rw [hys, halfA_length hml (by omega)]; exact hlen
  have hyn : ∀ i, ∀ y ∈ ys i, vStore.isAggA y = false := fun i => by rw [hys, hms, hxs]; exact halfA_na (marksI_na _ _) fun y hy => by obtain ⟨c, _, rfl⟩ := List.mem_map.1 hy; rfl
  have hx0 : xs = ys 0 := by rw [hys]; rfl
  obtain ⟨kf, hk0, hkn, hkb, hks, hkm⟩ : ∃ kf : Nat → Int, kf 0 = k ∧ kf n = k + n ∧ (∀ i, i ≤ n → 0 ≤ kf i ∧ kf i ≤ 2199024304128) ∧ (∀ i, kf (i + 1) = kf i + 1) ∧ (∀ i, i < n → ms[i]? = some (i64 (kf i))) :=
    ⟨fun i => k + i, by simp, rfl, fun i hi => by simp only; omega, fun i => by simp only; omega, fun i hi => by rw [hms]; exact marksI_at hi⟩
  have hset : ∀ i, i < n → (ys i).set i (i64 (kf i)) = ys (i + 1) := fun i hi => by rw [hys]; exact halfA_set hml (hkm i hi)
  have hzn : ms = ys n := by rw [hys, halfA, ← hlen, ← hml, List.take_length, hml, List.drop_length, List.append_nil]
  clear hkm hys
  rw [← hxs, ← hn, ← hms, hzn, ← hkn]
  have htab := tab
  refine MCtr.walkO tab hΩ 3 fn_laws_markInt64S rfl rfl rfl ?_
  have hlo : Ω.len xs = n := by subst hΩ; exact hlen
  generalize PP = P at *
  cbv
  refine loopX htab hΩ (fun i : Nat => ⟨[(0, .vw 0 0 n), (1, .sc (.int .i64 (kf i))), (5, .sc (.int .i64 (Ω.int i))), (19, .vw 0 0 n), (20, .sc (.int .i64 k))], 19, [some ⟨1, ys i, false⟩]⟩) (fun i => i ≤ n) (fun i => n - i) 0 (Nat.zero_le _)
    (Sbs.mk rfl (by rw [← hx0]) ⟨congrArg (A.vw 0 0) hlo, congrArg i64 hk0.symm, zeroI hΩ, congrArg (A.vw 0 0) hlo, rfl, trivial⟩) (fun i hi => ?_)
  have hyli := hyl i hi
  have hyni := hyn i
  have hkbi := hkb i hi
  have hse := hset i
  have hks1 := hks i
  cbv
  refine br (fun h => ?_) (fun h => ?_) <;> cbv
  · replace h : i < n := by have := ltN hΩ h; omega
    refine ⟨⟨ixI hΩ h⟩, ⟨by subst hΩ; show 0 + i < (ys i).length; omega, hyni⟩, i + 1, by omega, by omega, Sbs.mk rfl ?_ ⟨rfl, congrArg i64 ((addV hΩ hkbi.1 (by omega)).trans hks1.symm), incI hΩ (by omega), rfl, rfl, trivial⟩⟩
    rw [← hse h]
    subst hΩ
    show [some (Row.mk 1 ((ys i).set (0 + i) _) false)] = _
    rw [Nat.zero_add]
    rfl
  · replace h : i = n := by have := geN hΩ h; omega
    subst h
    exact ⟨⟨rfl, Nat.le_of_eq (hyl i hi).symm⟩, .same, .of (congrArg (fun z => [A.sl true 1 z, i64 k]) (takeI hΩ (hyl i hi)))⟩
theorem c_heldInt64S (n : Nat) (k : Int) (h0 : 0 ≤ k) (h1 : k ≤ 2199023255552) (hb : n ≤ 1048576) :
    PCtr PP n_laws_heldInt64S [.sl false 1 (marksI k n), i64 k] (i64 (k + n)) := by
  obtain ⟨Ω, hΩ⟩ : ∃ Ω, Ω = std := ⟨_, rfl⟩
  obtain ⟨ms, hms⟩ : ∃ ms, ms = marksI k n := ⟨_, rfl⟩
  have hml : ms.length = n := by rw [hms, marksI_length]
  obtain ⟨kf, hk0, hkn, hkb, hks, hkm⟩ : ∃ kf : Nat → Int, kf 0 = k ∧ kf n = k + n ∧ (∀ i, i ≤ n → 0 ≤ kf i ∧ kf i ≤ 2199024304128) ∧ (∀ i, kf (i + 1) = kf i + 1) ∧ (∀ i, i < n → ms[i]? = some (i64 (kf i))) :=
    ⟨fun i => k + i, by simp, rfl, fun i hi => by simp only; omega, fun i => by simp only; omega, fun i hi => by rw [hms]; exact marksI_at hi⟩
  rw [← hms, ← hkn]
  have htab := tab
  have hmo := hmo
  refine PCtr.walk tab hΩ fn_laws_heldInt64S rfl ?_
  generalize PP = P at *
  cbv
  refine loopX htab hΩ (fun i : Nat => ⟨[(0, .sl false 1 ms), (1, .sc (.int .i64 (kf i))), (5, .sc (.int .i64 (Ω.int i)))], 21, []⟩) (fun i => i ≤ n) (fun i => n - i) 0 (Nat.zero_le _)
    (Sbs.mk rfl rfl ⟨rfl, congrArg i64 hk0.symm, zeroI hΩ, trivial⟩) (fun i hi => ?_)
  have hkbi := hkb i hi
  have hks1 := hks i
  have hat := hkm i
  cbv
  refine br (fun h => ?_) (fun h => ?_) <;> cbv
  · replace h : i < n := by have := ltI hΩ h; omega
    refine ⟨⟨nnI hΩ⟩, _, rdJ hΩ (hat h), ?_⟩
    cbv
    refine br (fun h => (neSame hΩ h rfl).elim) (fun h => ?_)
    cbv
    exact ⟨i + 1, by omega, by omega, Sbs.mk rfl rfl ⟨rfl, congrArg i64 ((addV hΩ hkbi.1 (by omega)).trans hks1.symm), incI hΩ (by omega), trivial⟩⟩
  · replace h : i = n := by have := geI hΩ h; omega
    subst h
    exact .same
end Go.Proofs.YtomfmdfamlmfiaaGreat

/- Helpers of the laws of sets. Plain theorems. -/
set_option linter.unusedVariables false
set_option linter.unusedSimpArgs false
namespace Go.Proofs.YtomfmdfamlmfiaaGreat
open Go Go.Fw
set_option maxRecDepth 100000
theorem sum_le_cost : ∀ (l : List Pck), (l.map Pck.cnt).sum ≤ 12 * costS cP l
  | [] => Nat.zero_le _
  | o :: l => by
    have ih := sum_le_cost l
    have h : o.cnt ≤ 5 + 7 * cP o := by
      have h1 : ∀ d : List (List Trm), psum (fun l => 7 * l.length) d d.length ≤ 7 * costS (costS cT) d := fun d => by
        unfold psum
        rw [List.take_length]
        induction d with
        | nil => exact Nat.zero_le _
        | cons x d ih =>
          have := len_cost cT x
          unfold costS at ih ⊢
          simp only [List.map_cons, List.sum_cons, List.length_cons] at ih ⊢
          unfold costS at this
          omega
      have h2 := h1 o.d
      have h3 := len_cost cB o.p
      have h4 := len_cost cT o.b
      unfold Pck.cnt
      rw [psum_const, psum_const]
      unfold cP
      omega
    unfold costS at ih ⊢
    simp only [List.map_cons, List.sum_cons, List.length_cons] at ih ⊢
    omega
theorem psum_cnt_le (l : List Pck) : psum Pck.cnt l l.length ≤ 12 * costS cP l := by
  unfold psum
  rw [List.take_length]
  exact sum_le_cost l
theorem szP_le (cs : List Pck) (h : 0 ≤ szS szP cs 1048576) : szS szP cs 1048576 ≤ 1048576 := by
  rw [szS_cost szP_cost] at h ⊢
  split
  · omega
  · omega
theorem sz_facts2 {t : List Trm} {l : Int} (hl : l ≤ 1048576) (h : 0 ≤ szS szT t l) : t.length ≤ 1048576 := by
  rw [szS_cost szT_cost] at h
  split at h
  · omega
  · have := len_cost cT t
    omega
/-- What the size check tells. -/
theorem sz_facts {cs : List Pck} (h : 0 ≤ szS szP cs 1048576) : cs.length ≤ 1048576 ∧ (∀ o ∈ cs, o.Small) ∧ psum Pck.cnt cs cs.length ≤ 12582912 := by
  rw [szS_cost szP_cost] at h
  split at h
  · omega
  · have hc : costS cP cs ≤ 1048576 := by omega
    exact ⟨Nat.le_trans (len_cost _ _) hc, fun o ho => small_of (Nat.le_trans (mem_cost _ _ o ho) hc), Nat.le_trans (psum_cnt_le cs) (by omega)⟩
end Go.Proofs.YtomfmdfamlmfiaaGreat

/- Walks: who holds what is asked. Plain theorems. -/
set_option linter.unusedVariables false
set_option linter.unusedSimpArgs false
namespace Go.Proofs.YtomfmdfamlmfiaaGreat
open Go Go.Fw
set_option maxRecDepth 100000
def askC (c : List Pck) (s : List Int) (a : List Trm) : Int := if setF c s ≠ 0 then setF c s else if 8 < a.length then 2 else firstF trmF a
theorem c_asksCode (l : List Pck) (s : List Int) (a : List Trm) (hl : l.length ≤ 1048576) (hs : s.length ≤ 1048576) (ha : a.length ≤ 1048576) (ho : ∀ o ∈ l, o.Small) : PCtr PP n_impl_asksCode [encP l, .sl false 1 (s.map i64), .sl false 7 (a.map Trm.enc)] (i64 (askC l s a)) := by
  obtain ⟨Ω, hΩ⟩ : ∃ Ω, Ω = std := ⟨_, rfl⟩
  have h1 := c_implSetFault l s hl ho hs
  have h2 := c_termsFault a (by omega)
  obtain ⟨r, hr⟩ : ∃ r, r = askC l s a := ⟨_, rfl⟩
  rw [← hr]
  unfold askC at hr
  unfold encP at *
  obtain ⟨zs, hzs⟩ : ∃ zs, zs = a.map Trm.enc := ⟨_, rfl⟩
  have hlen : zs.length = a.length := by rw [hzs, List.length_map]
  rw [← hzs] at h2 ⊢
  rw [← hlen] at hr
  generalize setF l s = k1 at *
  generalize firstF trmF a = k2 at *
  generalize l.map (Pck.enc false) = xs at *
  generalize s.map i64 = ys at *
  clear hlen hzs
  have htab := tab
  have hmo := hmo
  refine PCtr.walk tab hΩ fn_impl_asksCode rfl ?_
  generalize PP = P at *
  cbv
  refine call_pure hΩ 3 h1 rfl (fits _) rfl rfl ?_
  cbv
  repeat' (first | (refine br (fun h => ?_) (fun h => ?_) <;> cbv) | (refine call_pure hΩ 3 h2 rfl (fits _) rfl rfl ?_; cbv))
  all_goals (refine .of (congrArg i64 ?_); clear h1 h2 htab hmo; subst hΩ; subst hr; simp_all [cmpIS])
  all_goals (intros; omega)
theorem c_l13Asked (l : List Pck) (s : List Int) (a : List Trm) (hl : l.length ≤ 1048576) (hs : s.length ≤ 1048576) (ha : a.length ≤ 1048576) (ho : ∀ o ∈ l, o.Small) : PCtr PP n_spec_l13Asked [encP l, .sl false 1 (s.map i64), .sl false 7 (a.map Trm.enc)] (i64 (askC l s a)) := by
  obtain ⟨Ω, hΩ⟩ : ∃ Ω, Ω = std := ⟨_, rfl⟩
  have h1 := c_specSetFault l s hl ho hs
  have h2 := c_l2Terms a (by omega)
  obtain ⟨r, hr⟩ : ∃ r, r = askC l s a := ⟨_, rfl⟩
  rw [← hr]
  unfold askC at hr
  unfold encP at *
  obtain ⟨zs, hzs⟩ : ∃ zs, zs = a.map Trm.enc := ⟨_, rfl⟩
  have hlen : zs.length = a.length := by rw [hzs, List.length_map]
  rw [← hzs] at h2 ⊢
  rw [← hlen] at hr
  generalize setF l s = k1 at *
  generalize firstF trmF a = k2 at *
  generalize l.map (Pck.enc false) = xs at *
  generalize s.map i64 = ys at *
  clear hlen hzs
  have htab := tab
  have hmo := hmo
  refine PCtr.walk tab hΩ fn_spec_l13Asked rfl ?_
  generalize PP = P at *
  cbv
  refine call_pure hΩ 3 h1 rfl (fits _) rfl rfl ?_
  cbv
  repeat' (first | (refine br (fun h => ?_) (fun h => ?_) <;> cbv) | (refine call_pure hΩ 3 h2 rfl (fits _) rfl rfl ?_; cbv))
  all_goals (refine .of (congrArg i64 ?_); clear h1 h2 htab hmo; subst hΩ; subst hr; simp_all [cmpIS])
  all_goals (intros; omega)
end Go.Proofs.YtomfmdfamlmfiaaGreat

/- Walks: who leans on one. Plain theorems. -/
set_option linter.unusedVariables false
set_option linter.unusedSimpArgs false
namespace Go.Proofs.YtomfmdfamlmfiaaGreat
open Go Go.Fw
set_option maxRecDepth 100000
theorem c_l1Has (l : List Int) (s : Int) (hl : l.length ≤ 4611686018427387904) : PCtr PP n_spec_l1Has [.sl false 1 (l.map i64), i64 s] (boo (l.any (· == s))) := by
  obtain ⟨Ω, hΩ⟩ : ∃ Ω, Ω = std := ⟨_, rfl⟩
  obtain ⟨r, hr⟩ : ∃ r, r = l.any (· == s) := ⟨_, rfl⟩
  rw [← hr]
  obtain ⟨xs, hxs⟩ : ∃ xs, xs = l.map i64 := ⟨_, rfl⟩
  have hlen : xs.length = l.length := by rw [hxs, List.length_map]
  rw [← hxs]
  have htab := tab
  have hmo := hmo
  have hve := verEq
  refine PCtr.walk tab hΩ fn_spec_l1Has rfl ?_
  generalize PP = P at *
  cbv
  refine loopX htab hΩ (fun i : Nat => ⟨[(0, .sl false 1 xs), (1, .sc (.int .i64 s)), (5, .sc (.int .i64 (Ω.int i)))], 18, []⟩) (fun i => i ≤ l.length ∧ r = (l.drop i).any (· == s)) (fun i => l.length - i) 0
    ⟨Nat.zero_le _, hr⟩ (Sbs.mk rfl rfl ⟨rfl, rfl, zeroI hΩ, trivial⟩) ?_
  rintro i ⟨hi, he⟩
  cbv
  refine br (fun h => ?_) (fun h => ?_) <;> cbv
  · replace h := ltI hΩ h
    obtain ⟨c, hcc⟩ := at_of (cs := l) (by omega : i < l.length)
    rw [any_at _ hcc] at he
    refine ⟨⟨nnI hΩ⟩, _, rdI hΩ hxs hcc, ?_⟩
    cbv
    refine br (fun g => ?_) (fun g => ?_) <;> cbv
    · exact .of (congrArg boo (by rw [he, show (c == s) = true by simp [eqI_t hΩ g]]; rfl))
    · rw [show (c == s) = false by simp [eqI_f hΩ g], Bool.false_or] at he
      exact ⟨i + 1, ⟨by omega, he⟩, by omega, Sbs.mk rfl rfl ⟨rfl, rfl, incI hΩ (by omega), trivial⟩⟩
  · replace h := geI hΩ h
    exact .of (congrArg boo (by rw [he, List.drop_of_length_le (by omega)]; rfl))
theorem c_IndexI (l : List Int) (s : Int) (hl : l.length ≤ 4611686018427387904) : PCtr PP n_slices_Index_L_int64_int64 [.sl false 1 (l.map i64), i64 s] (i64 (idx (fun c => s == c) l)) := by
  obtain ⟨Ω, hΩ⟩ : ∃ Ω, Ω = std := ⟨_, rfl⟩
  obtain ⟨r, hr⟩ : ∃ r, r = idx (fun c => s == c) l := ⟨_, rfl⟩
  rw [← hr]
  obtain ⟨xs, hxs⟩ : ∃ xs, xs = l.map i64 := ⟨_, rfl⟩
  have hlen : xs.length = l.length := by rw [hxs, List.length_map]
  rw [← hxs]
  have htab := tab
  have hmo := hmo
  have hve := verEq
  refine PCtr.walk tab hΩ fn_slices_Index_L_int64_int64 rfl ?_
  generalize PP = P at *
  cbv
  refine loopX htab hΩ (fun i : Nat => ⟨[(0, .sl false 1 xs), (1, .sc (.int .i64 s)), (7, .sc (.int .i64 (Ω.int (Ω.len xs)))), (8, .sc (.int .i64 (Ω.int i)))], 19, []⟩) (fun i => i ≤ l.length ∧ r = idxFrom (fun c => s == c) i (l.drop i)) (fun i => l.length - i) 0
    ⟨Nat.zero_le _, hr⟩ (Sbs.mk rfl rfl ⟨rfl, rfl, rfl, zeroI hΩ, trivial⟩) ?_
  rintro i ⟨hi, he⟩
  cbv
  refine br (fun h => ?_) (fun h => ?_) <;> cbv
  · replace h := ltI hΩ h
    obtain ⟨c, hcc⟩ := at_of (cs := l) (by omega : i < l.length)
    rw [idxFrom_at _ hcc] at he
    refine ⟨⟨nnI hΩ⟩, _, rdI hΩ hxs hcc, ?_⟩
    cbv
    refine br (fun g => ?_) (fun g => ?_) <;> cbv
    · exact .of (congrArg i64 (by rw [he, if_pos (by have := eqI_t hΩ g; simp [this])]; subst hΩ; rfl))
    · rw [if_neg (by have := eqI_f hΩ g; simp; omega)] at he
      exact ⟨i + 1, ⟨by omega, he⟩, by omega, Sbs.mk rfl rfl ⟨rfl, rfl, rfl, incI hΩ (by omega), trivial⟩⟩
  · replace h := geI hΩ h
    exact .of (congrArg i64 (by rw [he, List.drop_of_length_le (by omega)]; rfl))
theorem c_ContainsI (l : List Int) (s : Int) (hl : l.length ≤ 4611686018427387904) : PCtr PP n_slices_Contains_L_int64_int64 [.sl false 1 (l.map i64), i64 s] (boo (l.any (· == s))) := by
  obtain ⟨Ω, hΩ⟩ : ∃ Ω, Ω = std := ⟨_, rfl⟩
  obtain ⟨r, hr⟩ : ∃ r, r = l.any (· == s) := ⟨_, rfl⟩
  rw [← hr]
  have hc0 := c_IndexI l s hl
  rw [show (l.any (· == s)) = l.any (fun c => s == c) by congr 1; funext c; rw [Bool.eq_iff_iff, beq_iff_eq, beq_iff_eq]; exact eq_comm, ← idx_any] at hr
  generalize idx (fun c => s == c) l = k at *
  generalize l.map i64 = xs at *
  have htab := tab
  have hmo := hmo
  refine PCtr.walk tab hΩ fn_slices_Contains_L_int64_int64 rfl ?_
  generalize PP = P at *
  cbv
  repeat' (first | (refine br (fun h => ?_) (fun h => ?_) <;> cbv) | (refine ⟨VC_drawn htab hΩ hmo (by kernel_rfl) ?_⟩; cbv) | (refine QCall_pure (k := 3) (hc0) rfl (fits _) rfl ?_; cbv) | (refine call_pure hΩ 3 (hc0) rfl (fits _) rfl rfl ?_; cbv))
  all_goals (refine .of (congrArg boo ?_); subst hΩ; subst hr; rfl)
/-- k leans on t. -/
def nedB (c : List Pck) (t k : Int) : Bool := !decide (k = t) && (pk c k).d.any fun l => l.any (givesB (pk c t))
theorem c_leans (l : List Pck) (k t : Int) (hl : l.length ≤ 1048576) (hs : ∀ o ∈ l, o.Small) (hk : inB k 0 ((l.length : Int) - 1) = true) (ht : inB t 0 ((l.length : Int) - 1) = true) : PCtr PP n_impl_leans [encP l, i64 k, i64 t] (boo (nedB l t k)) := by
  obtain ⟨Ω, hΩ⟩ : ∃ Ω, Ω = std := ⟨_, rfl⟩
  obtain ⟨r, hr⟩ : ∃ r, r = nedB l t k := ⟨_, rfl⟩
  rw [← hr]
  obtain ⟨xs, hxs⟩ : ∃ xs, xs = l.map (Pck.enc false) := ⟨_, rfl⟩
  have hlen : xs.length = l.length := by rw [hxs, List.length_map]
  unfold encP at *
  rw [← hxs]
  obtain ⟨ht0, htl, hta, htm⟩ := pk_at ht
  obtain ⟨hk0, hkl, hka, hkm⟩ := pk_at hk
  obtain ⟨ps1, ds1, bs1, hen1, hps1, hds1, hbs1⟩ := enc_raw (pk l t)
  obtain ⟨ps2, ds2, bs2, hen2, hps2, hds2, hbs2⟩ := enc_raw (pk l k)
  have hx1 : xs[t.toNat]? = some (Pck.enc false (pk l t)) := by rw [hxs, List.getElem?_map, hta]; rfl
  have hx2 : xs[k.toNat]? = some (Pck.enc false (pk l k)) := by rw [hxs, List.getElem?_map, hka]; rfl
  have hcf : PCtr PP n_slices_ContainsFunc_L_L_impl_Term_L_impl_Term [.sl false 1 ((pk l k).d.map (encTs false)), .clo (1000000 + n_impl_Pack_givesOne) [(pk l t).enc false]] (boo ((pk l k).d.any fun u => u.any (givesB (pk l t)))) :=
    c_ContainsFuncL _ (by have := (hs _ hkm).d; omega) _ _ _ ⟨fun S k => by rw [hen1]; rfl, by rw [hen1]; rfl, fun _ => by rw [hen1]; rfl, fun u hu => c_givesOne (pk l t) u (hs _ htm).p ((hs _ hkm).e u hu)⟩
  rw [hen1] at hx1 hcf
  rw [hen2] at hx2
  rw [← hds2] at hcf
  unfold nedB at hr
  generalize ((pk l k).d.any fun u => u.any (givesB (pk l t))) = B1 at *
  clear hbs1 hbs2 hps1 hps2 hds1 hds2 hen1 hen2 hs hk ht htm hkm hta hka hxs
  generalize pk l t = p1 at *
  generalize pk l k = p2 at *
  have htab := tab
  have hmo := hmo
  have hve := verEq
  refine PCtr.walk tab hΩ fn_impl_leans rfl ?_
  generalize PP = P at *
  cbv
  refine ⟨VC_drawn htab hΩ hmo (by kernel_rfl) ?_⟩
  cbv
  repeat' (first | (refine br (fun h => ?_) (fun h => ?_) <;> cbv) | (refine ⟨⟨ht0⟩, _, hx1, ?_⟩; cbv) | (refine ⟨⟨hk0⟩, _, hx2, ?_⟩; cbv) | (refine QCall_pure (k := 5) hcf (ro_clo2 rfl rfl) (fits _) rfl ?_; cbv))
  all_goals (refine .of (congrArg boo ?_); subst hΩ; subst hr; clear hcf htab hmo hve; simp_all)
theorem c_l13Leans (l : List Pck) (k t : Int) (hl : l.length ≤ 1048576) (hs : ∀ o ∈ l, o.Small) (hk : inB k 0 ((l.length : Int) - 1) = true) (ht : inB t 0 ((l.length : Int) - 1) = true) : PCtr PP n_spec_l13Leans [encP l, i64 k, i64 t] (boo (nedB l t k)) := by
  obtain ⟨Ω, hΩ⟩ : ∃ Ω, Ω = std := ⟨_, rfl⟩
  obtain ⟨r, hr⟩ : ∃ r, r = nedB l t k := ⟨_, rfl⟩
  rw [← hr]
  obtain ⟨xs, hxs⟩ : ∃ xs, xs = l.map (Pck.enc false) := ⟨_, rfl⟩
  have hlen : xs.length = l.length := by rw [hxs, List.length_map]
  unfold encP at *
  rw [← hxs]
  obtain ⟨ht0, htl, hta, htm⟩ := pk_at ht
  obtain ⟨hk0, hkl, hka, hkm⟩ := pk_at hk
  obtain ⟨ps1, ds1, bs1, hen1, hps1, hds1, hbs1⟩ := enc_raw (pk l t)
  obtain ⟨ps2, ds2, bs2, hen2, hps2, hds2, hbs2⟩ := enc_raw (pk l k)
  have hx1 : xs[t.toNat]? = some (Pck.enc false (pk l t)) := by rw [hxs, List.getElem?_map, hta]; rfl
  have hx2 : xs[k.toNat]? = some (Pck.enc false (pk l k)) := by rw [hxs, List.getElem?_map, hka]; rfl
  have hg := fun t' => c_l2Gives (pk l t) t' (by have := (hs _ htm).p; omega)
  rw [hen1] at hx1 hg
  rw [hen2] at hx2
  unfold nedB at hr
  have hdl : (pk l k).d.length ≤ 1048576 := (hs _ hkm).d
  have hdd := (hs _ hkm).e
  generalize (pk l k).d = d at *
  generalize givesB (pk l t) = G at *
  have hdlen : ds2.length = d.length := by rw [hds2, List.length_map]
  clear hbs1 hbs2 hps1 hps2 hds1 hen1 hs hk ht htm hkm hta hka hen2
  generalize pk l t = p1 at *
  generalize pk l k = p2 at *
  rw [show ((!decide (k = t)) && d.any fun l => l.any G) = ((d.any fun l => l.any G) && !decide (k = t)) from Bool.and_comm _ _] at hr
  obtain ⟨B, hB⟩ : ∃ B, B = !decide (k = t) := ⟨_, rfl⟩
  rw [← hB] at hr
  have htab := tab
  have hmo := hmo
  refine PCtr.walk tab hΩ fn_spec_l13Leans rfl ?_
  generalize PP = P at *
  cbv
  refine ⟨⟨hk0⟩, _, hx2, ?_⟩
  cbv
  refine loopX htab hΩ (fun i : Nat => ⟨[(0, .sl false 8 xs), (1, .sc (.int .i64 k)), (2, .sc (.int .i64 t)), (7, .sl false 1 ds2), (8, .sc (.int .i64 (Ω.int i)))], 45, []⟩) (fun i => i ≤ d.length ∧ r = (((d.drop i).any fun l => l.any G) && B)) (fun i => d.length - i) 0
    ⟨Nat.zero_le _, hr⟩ (Sbs.mk rfl rfl ⟨rfl, rfl, rfl, rfl, zeroI hΩ, trivial⟩) ?_
  rintro i ⟨hi, he⟩
  cbv
  refine br (fun h => ?_) (fun h => ?_) <;> cbv
  · replace h := ltI hΩ h
    obtain ⟨c, hcc⟩ := at_of (cs := d) (by omega : i < d.length)
    rw [any_at _ hcc] at he
    obtain ⟨ts, hts⟩ : ∃ ts, ts = c.map Trm.enc := ⟨_, rfl⟩
    have hcl := hdd c (List.mem_of_getElem? hcc)
    have htl : ts.length = c.length := by rw [hts, List.length_map]
    have hrd : ds2[(Ω.int i).toNat]? = some (.sl false 7 ts) := (rdI hΩ hds2 hcc).trans (by rw [hts]; rfl)
    refine loopX htab hΩ (fun j : Nat => ⟨[(0, .sl false 8 xs), (1, .sc (.int .i64 k)), (2, .sc (.int .i64 t)), (7, .sl false 1 ds2), (8, .sc (.int .i64 (Ω.int i))), (9, .sc (.int .i64 (Ω.int j)))], 45, []⟩) (fun j => j ≤ c.length ∧ r = (((c.drop j).any G || ((d.drop (i + 1)).any fun l => l.any G)) && B)) (fun j => c.length - j) 0
      ⟨Nat.zero_le _, he⟩ (Sbs.mk rfl rfl ⟨rfl, rfl, rfl, rfl, rfl, zeroI hΩ, trivial⟩) ?_
    rintro j ⟨hj, he⟩
    cbv
    refine ⟨⟨nnI hΩ⟩, _, hrd, ?_⟩
    cbv
    refine br (fun h => ?_) (fun h => ?_) <;> cbv
    · replace h := ltI hΩ h
      obtain ⟨e, hee⟩ := at_of (cs := c) (by omega : j < c.length)
      rw [any_at _ hee] at he
      refine ⟨VC_drawn htab hΩ hmo (by kernel_rfl) ?_⟩
      cbv
      refine ⟨⟨ht0⟩, _, hx1, ?_⟩
      cbv
      refine ⟨⟨nnI hΩ⟩, _, hrd, ?_⟩
      cbv
      refine ⟨⟨nnI hΩ⟩, _, rdI hΩ hts hee, ?_⟩
      cbv
      refine QCall_pure (k := 3) (hg e) rfl (fits _) rfl ?_
      cbv
      refine br (fun g => ?_) (fun g => ?_) <;> cbv
      · exact .of (congrArg boo (by rw [he, show G e = true from g, hB]; clear hg; subst hΩ; by_cases q : k = t <;> simp [q, cmpIS]))
      · rw [show G e = false from g, Bool.false_or] at he
        exact ⟨j + 1, ⟨by omega, he⟩, by omega, Sbs.mk rfl rfl ⟨rfl, rfl, rfl, rfl, rfl, incI hΩ (by omega), trivial⟩⟩
    · replace h := geI hΩ h
      rw [List.drop_of_length_le (by omega : c.length ≤ j), List.any_nil, Bool.false_or] at he
      exact ⟨i + 1, ⟨by omega, he⟩, by omega, Sbs.mk rfl rfl ⟨rfl, rfl, rfl, rfl, incI hΩ (by omega), trivial⟩⟩
  · replace h := geI hΩ h
    exact .of (congrArg boo (by rw [he, List.drop_of_length_le (by omega)]; rfl))
end Go.Proofs.YtomfmdfamlmfiaaGreat

/- Ways: levels, the least way, the program's table of ways. Plain theorems. -/
set_option linter.unusedVariables false
set_option linter.unusedSimpArgs false
namespace Go.Proofs.YtomfmdfamlmfiaaGreat
/-- Which of two lists of numbers is less, as the reference tells it. -/
def lessL : List Int → List Int → Bool
  | a :: l, b :: m => if a = b then lessL l m else decide (a < b)
  | _, _ => false
theorem lessL_irr : ∀ l : List Int, lessL l l = false
  | [] => rfl
  | a :: l => by simp [lessL, lessL_irr l]
theorem lessL_asy : ∀ {l m : List Int}, lessL l m = true → lessL m l = false
  | [], _, h => by simp [lessL] at h
  | _ :: _, [], h => by simp [lessL] at h
  | a :: l, b :: m, h => by
    simp only [lessL] at h ⊢
    by_cases hab : a = b
    · subst hab
      simp only [if_pos] at h ⊢
      exact lessL_asy h
    · rw [if_neg hab] at h
      rw [if_neg (Ne.symm hab)]
      have : a < b := by simpa using h
      simpa using by omega
theorem lessL_trans : ∀ {l m n : List Int}, lessL l m = true → lessL m n = true → lessL l n = true
  | [], _, _, h, _ => by simp [lessL] at h
  | _ :: _, [], _, h, _ => by simp [lessL] at h
  | _ :: _, _ :: _, [], _, h => by simp [lessL] at h
  | a :: l, b :: m, c :: n, h1, h2 => by
    simp only [lessL] at h1 h2 ⊢
    by_cases hab : a = b
    · subst hab
      simp only [if_pos] at h1
      by_cases hac : a = c
      · subst hac
        simp only [if_pos] at h2 ⊢
        exact lessL_trans h1 h2
      · rw [if_neg hac] at h2 ⊢; exact h2
    · rw [if_neg hab] at h1
      have h1 : a < b := by simpa using h1
      by_cases hbc : b = c
      · subst hbc
        rw [if_neg hab]; simpa using h1
      · rw [if_neg hbc] at h2
        have h2 : b < c := by simpa using h2
        rw [if_neg (by omega)]
        simpa using by omega
theorem lessL_tot : ∀ {l m : List Int}, l.length = m.length → lessL l m = false → l = m ∨ lessL m l = true
  | [], [], _, _ => .inl rfl
  | [], _ :: _, h, _ => by simp at h
  | _ :: _, [], h, _ => by simp at h
  | a :: l, b :: m, hl, h => by
    simp only [lessL] at h ⊢
    by_cases hab : a = b
    · subst hab
      simp only [if_pos] at h ⊢
      rcases lessL_tot (by simpa using hl) h with h | h
      · exact .inl (by rw [h])
      · exact .inr h
    · rw [if_neg hab] at h
      rw [if_neg (Ne.symm hab)]
      have : ¬ a < b := by simpa using h
      exact .inr (by simpa using by omega)
theorem lessL_app : ∀ {l m : List Int} (x y : List Int), l.length = m.length → lessL l m = true → lessL (l ++ x) (m ++ y) = true
  | [], _, _, _, _, h => by simp [lessL] at h
  | _ :: _, [], _, _, h, _ => by simp at h
  | a :: l, b :: m, x, y, hl, h => by
    simp only [lessL, List.cons_append] at h ⊢
    by_cases hab : a = b
    · subst hab
      simp only [if_pos] at h ⊢
      exact lessL_app x y (by simpa using hl) h
    · rw [if_neg hab] at h ⊢; exact h
theorem lessL_same : ∀ (l : List Int) (a b : Int), a < b → lessL (l ++ [a]) (l ++ [b]) = true
  | [], a, b, h => by simp [lessL, show a ≠ b by omega, h]
  | c :: l, a, b, h => by simp [lessL, lessL_same l a b h]
/-- The least of some ways. -/
def bestW (p : Int → Bool) (W : Int → List Int) : List Int → List Int → List Int
  | b, [] => b
  | b, j :: js => bestW p W (if p j then (if b.length = 0 ∨ lessL (W j) b = true then W j else b) else b) js
structure BestOf (p : Int → Bool) (W : Int → List Int) (js : List Int) (b : List Int) : Prop where
  none : (∀ j ∈ js, p j = false) → b = []
  ex : (∃ j ∈ js, p j = true) → ∃ j ∈ js, p j = true ∧ b = W j
  le : ∀ j ∈ js, p j = true → b = W j ∨ lessL b (W j) = true
theorem bestW_of {p : Int → Bool} {W : Int → List Int} {n : Nat} (hn : ∀ j, p j = true → (W j).length = n + 1) : ∀ (js ds : List Int) (b : List Int), BestOf p W ds b → BestOf p W (ds ++ js) (bestW p W b js)
  | [], ds, b, h => by simpa [bestW] using h
  | j :: js, ds, b, h => by
    have key : BestOf p W (ds ++ [j]) (if p j then (if b.length = 0 ∨ lessL (W j) b = true then W j else b) else b) := by
      by_cases hp : p j = true
      · rw [if_pos hp]
        have hnone : ¬ (∀ i ∈ ds ++ [j], p i = false) := fun h => by
          have := h j (by simp)
          rw [hp] at this; cases this
        by_cases hb : b.length = 0 ∨ lessL (W j) b = true
        · rw [if_pos hb]
          refine ⟨fun h => absurd h hnone, fun _ => ⟨j, by simp, hp, rfl⟩, fun i hi hpi => ?_⟩
          rcases List.mem_append.1 hi with hi | hi
          · rcases hb with hb | hb
            · obtain ⟨i', hi', hp', e⟩ := h.ex ⟨i, hi, hpi⟩
              have := hn i' hp'
              rw [← e, hb] at this; cases this
            · rcases h.le i hi hpi with e | e
              · rw [← e]; exact .inr hb
              · exact .inr (lessL_trans hb e)
          · obtain rfl : i = j := by simpa using hi
            exact .inl rfl
        · rw [if_neg hb]
          have hb0 : b.length ≠ 0 := fun h => hb (.inl h)
          have hb1 : lessL (W j) b = false := by
            cases e : lessL (W j) b with
            | true => exact absurd (.inr e) hb
            | false => rfl
          have hex : ∃ i ∈ ds, p i = true := by
            rcases Classical.em (∃ i ∈ ds, p i = true) with h' | h'
            · exact h'
            · have := h.none fun i hi => by
                cases e : p i with
                | true => exact absurd ⟨i, hi, e⟩ h'
                | false => rfl
              rw [this] at hb0; exact absurd rfl hb0
          obtain ⟨i, hi, hpi, e⟩ := h.ex hex
          refine ⟨fun h => absurd h hnone, fun _ => ⟨i, by simp [hi], hpi, e⟩, fun i' hi' hpi' => ?_⟩
          rcases List.mem_append.1 hi' with hi' | hi'
          · exact h.le i' hi' hpi'
          · obtain rfl : i' = j := by simpa using hi'
            rcases lessL_tot (by rw [e, hn _ hp, hn _ hpi]) hb1 with e' | e'
            · exact .inl e'.symm
            · exact .inr e'
      · rw [if_neg hp]
        have hp' : p j = false := by simpa using hp
        refine ⟨fun h' => h.none fun i hi => h' i (by simp [hi]), fun ⟨i, hi, hpi⟩ => ?_, fun i hi hpi => ?_⟩
        · rcases List.mem_append.1 hi with hi | hi
          · obtain ⟨i', q1, q2, q3⟩ := h.ex ⟨i, hi, hpi⟩
            exact ⟨i', by simp [q1], q2, q3⟩
          · obtain rfl : i = j := by simpa using hi
            exact absurd hpi hp
        · rcases List.mem_append.1 hi with hi | hi
          · exact h.le i hi hpi
          · obtain rfl : i = j := by simpa using hi
            exact absurd hpi hp
    have := bestW_of hn js (ds ++ [j]) _ key
    rw [List.append_assoc] at this
    exact this
theorem bestW_ok {p : Int → Bool} {W : Int → List Int} {n : Nat} (hn : ∀ j, p j = true → (W j).length = n + 1) (js : List Int) : BestOf p W js (bestW p W [] js) := by
  simpa using bestW_of hn js [] [] ⟨fun _ => rfl, fun ⟨_, h, _⟩ => by simp at h, fun _ h => by simp at h⟩
section
variable (asks : Int → Bool) (lea : Int → Int → Bool) (set : List Int)
/-- Is k of level n; was it met up to level n. -/
def lvD : Nat → Int → Bool × Bool
  | 0, k => (asks k, asks k)
  | n + 1, k => (!(lvD n k).2 && set.any fun j => (lvD n j).1 && lea j k, (lvD n k).2 || (!(lvD n k).2 && set.any fun j => (lvD n j).1 && lea j k))
/-- The least way to k of level n. -/
def wayD : Nat → Int → List Int
  | 0, k => [k]
  | n + 1, k => bestW (fun j => (lvD asks lea set n j).1 && lea j k) (wayD n) [] set ++ [k]
/-- How far k is after n rounds. -/
def farV : Nat → Int → Int
  | 0, k => if asks k then 1 else -1
  | n + 1, k => if farV n k < 0 ∧ set.any (fun j => decide (farV n j = n + 1) && lea j k) = true then n + 2 else farV n k
end
section
variable {asks : Int → Bool} {lea : Int → Int → Bool} {set : List Int}
theorem lvD_seen : ∀ {n : Nat} {k : Int}, (lvD asks lea set n k).1 = true → (lvD asks lea set n k).2 = true
  | 0, k, h => h
  | n + 1, k, h => by simp only [lvD] at h ⊢; rw [h]; simp
theorem lvD_mono {n : Nat} {k : Int} (h : (lvD asks lea set n k).2 = true) : ∀ d : Nat, (lvD asks lea set (n + d) k).2 = true
  | 0 => h
  | d + 1 => by
    have := lvD_mono h d
    show (lvD asks lea set (n + d + 1) k).2 = true
    simp only [lvD, this, Bool.true_or]
theorem lvD_seen_iff : ∀ {n : Nat} {k : Int}, (lvD asks lea set n k).2 = true ↔ ∃ m, m ≤ n ∧ (lvD asks lea set m k).1 = true
  | 0, k => ⟨fun h => ⟨0, Nat.le_refl _, h⟩, fun ⟨m, hm, h⟩ => by
      obtain rfl : m = 0 := by omega
      exact lvD_seen h⟩
  | n + 1, k => by
    have ih := lvD_seen_iff (n := n) (k := k)
    constructor
    · intro h
      have h' : ((lvD asks lea set n k).2 || (lvD asks lea set (n + 1) k).1) = true := h
      rcases (Bool.or_eq_true _ _).mp h' with h' | h'
      · obtain ⟨m, h1, h2⟩ := ih.1 h'
        exact ⟨m, by omega, h2⟩
      · exact ⟨n + 1, Nat.le_refl _, h'⟩
    · rintro ⟨m, h1, h2⟩
      have := lvD_mono (lvD_seen h2) (n + 1 - m)
      rw [show m + (n + 1 - m) = n + 1 by omega] at this
      exact this
theorem lvD_one {m n : Nat} {k : Int} (h1 : (lvD asks lea set m k).1 = true) (h2 : (lvD asks lea set n k).1 = true) : m = n := by
  have key : ∀ {m n : Nat}, (lvD asks lea set m k).1 = true → (lvD asks lea set n k).1 = true → ¬ m < n := fun {m n} h1 h2 h => by
    obtain ⟨d, rfl⟩ : ∃ d, n = m + d + 1 := ⟨n - m - 1, by omega⟩
    have := lvD_mono (lvD_seen h1) d
    simp only [lvD, this, Bool.not_true, Bool.false_and] at h2
    cases h2
  have := key h1 h2
  have := key h2 h1
  omega
theorem wayD_len : ∀ {n : Nat} {k : Int}, (lvD asks lea set n k).1 = true → (wayD asks lea set n k).length = n + 1
  | 0, k, _ => rfl
  | n + 1, k, h => by
    have hb := bestW_ok (p := fun j => (lvD asks lea set n j).1 && lea j k) (W := wayD asks lea set n) (n := n) (fun j hj => wayD_len (by simp at hj; exact hj.1)) set
    simp only [lvD, Bool.and_eq_true, List.any_eq_true] at h
    obtain ⟨_, j, hj, hj2⟩ := h
    obtain ⟨i, hi, hp, e⟩ := hb.ex ⟨j, hj, by simpa using hj2⟩
    show (bestW _ _ [] set ++ [k]).length = _
    rw [e]
    have := wayD_len (n := n) (k := i) (by simp at hp; exact hp.1)
    simp [this]
theorem wayD_last (n : Nat) (k : Int) : (wayD asks lea set n k).getLast? = some k := by
  cases n with
  | zero => rfl
  | succ n => simp [wayD]
/-- A way goes on from one of the level ahead. -/
theorem wayD_succ {n : Nat} {k : Int} (h : (lvD asks lea set (n + 1) k).1 = true) : ∃ j ∈ set, (lvD asks lea set n j).1 = true ∧ lea j k = true ∧ wayD asks lea set (n + 1) k = wayD asks lea set n j ++ [k] := by
  have hb := bestW_ok (p := fun j => (lvD asks lea set n j).1 && lea j k) (W := wayD asks lea set n) (n := n) (fun j hj => wayD_len (by simp at hj; exact hj.1)) set
  simp only [lvD, Bool.and_eq_true, List.any_eq_true] at h
  obtain ⟨_, j, hj, hj2⟩ := h
  obtain ⟨i, hi, hp, e⟩ := hb.ex ⟨j, hj, by simpa using hj2⟩
  simp only [Bool.and_eq_true] at hp
  refine ⟨i, hi, hp.1, hp.2, ?_⟩
  show bestW _ _ [] set ++ [k] = _
  rw [e]
theorem farV_eq : ∀ {n : Nat} {k : Int}, (∀ m, m ≤ n → (farV asks lea set n k = m + 1 ↔ (lvD asks lea set m k).1 = true)) ∧ ((lvD asks lea set n k).2 = false → farV asks lea set n k = -1)
  | 0, k => by
    refine ⟨fun m hm => ?_, fun h => ?_⟩
    · obtain rfl : m = 0 := by omega
      simp only [farV, lvD]
      cases asks k <;> simp
    · have h : asks k = false := h
      simp [farV, h]
  | n + 1, k => by
    have ih := fun k => farV_eq (n := n) (k := k)
    have hany : set.any (fun j => decide (farV asks lea set n j = n + 1) && lea j k) = set.any (fun j => (lvD asks lea set n j).1 && lea j k) := by
      congr 1
      funext j
      have := (ih j).1 n (Nat.le_refl _)
      congr 1
      cases e : (lvD asks lea set n j).1 with
      | true => simpa using this.2 e
      | false => simpa using fun h => by rw [this.1 h] at e; cases e
    cases hs : (lvD asks lea set n k).2 with
    | true =>
      obtain ⟨m, hm, hd⟩ := lvD_seen_iff.1 hs
      have hf := ((ih k).1 m hm).2 hd
      have hfar : farV asks lea set (n + 1) k = m + 1 := by
        simp only [farV]
        rw [if_neg (fun h => by rw [hf] at h; omega), hf]
      refine ⟨fun m' hm' => ?_, fun h => ?_⟩
      · rw [hfar]
        constructor
        · intro h
          obtain rfl : m = m' := by omega
          exact hd
        · intro h
          obtain rfl := lvD_one hd h
          rfl
      · have := lvD_mono hs 1
        rw [this] at h; cases h
    | false =>
      have hf := (ih k).2 hs
      have hd1 : (lvD asks lea set (n + 1) k).1 = set.any (fun j => (lvD asks lea set n j).1 && lea j k) := by simp [lvD, hs]
      have hfar : farV asks lea set (n + 1) k = if (lvD asks lea set (n + 1) k).1 = true then ((n + 1 : Nat) : Int) + 1 else -1 := by
        simp only [farV]
        rw [hany, ← hd1, hf]
        by_cases h : (lvD asks lea set (n + 1) k).1 = true
        · rw [if_pos ⟨by omega, h⟩, if_pos h]; omega
        · rw [if_neg (fun h' => h h'.2), if_neg h]
      have hno : ∀ m, m ≤ n → (lvD asks lea set m k).1 = false := fun m hm => by
        cases e : (lvD asks lea set m k).1 with
        | false => rfl
        | true => rw [lvD_seen_iff.2 ⟨m, hm, e⟩] at hs; cases hs
      refine ⟨fun m hm => ?_, fun h => ?_⟩
      · rw [hfar]
        by_cases h : (lvD asks lea set (n + 1) k).1 = true
        · rw [if_pos h]
          constructor
          · intro h'
            obtain rfl : m = n + 1 := by omega
            exact h
          · intro h'
            rw [lvD_one h' h]
        · rw [if_neg h]
          constructor
          · intro h'; omega
          · intro h'
            exfalso
            rcases Nat.lt_or_ge n m with q | q
            · obtain rfl : m = n + 1 := by omega
              exact h h'
            · rw [hno m q] at h'; cases h'
      · rw [hfar, if_neg]
        intro h'
        rw [lvD_seen h'] at h; cases h
/-- A level has one of the set at the least. -/
theorem count_lt {p q : Int → Bool} : ∀ {l : List Int}, (∀ x ∈ l, p x = true → q x = true) → (∃ x ∈ l, q x = true ∧ p x = false) → (l.filter p).length + 1 ≤ (l.filter q).length
  | [], _, h => by obtain ⟨_, h, _⟩ := h; simp at h
  | y :: l, h1, h2 => by
    have mono : (l.filter p).length ≤ (l.filter q).length := by
      clear h2
      induction l with
      | nil => simp
      | cons z l ih =>
        have ih := ih fun x hx => h1 x (by rcases List.mem_cons.1 hx with rfl | hx <;> simp [*])
        simp only [List.filter_cons]
        cases hp : p z with
        | true => rw [if_pos rfl, if_pos (h1 z (by simp) hp)]; simpa using ih
        | false => rw [if_neg (by simp)]; split <;> simp <;> omega
    simp only [List.filter_cons]
    by_cases hy : q y = true ∧ p y = false
    · rw [if_pos hy.1, if_neg (by simp [hy.2])]; simp; omega
    · have h2' : ∃ x ∈ l, q x = true ∧ p x = false := by
        obtain ⟨x, hx, hq⟩ := h2
        rcases List.mem_cons.1 hx with rfl | hx
        · exact absurd hq hy
        · exact ⟨x, hx, hq⟩
      have ih := count_lt (l := l) (fun x hx => h1 x (.tail _ hx)) h2'
      cases hp : p y with
      | true => rw [if_pos rfl, if_pos (h1 y (by simp) hp)]; simp; omega
      | false => rw [if_neg (by simp)]; split <;> simp <;> omega
theorem lvD_count : ∀ {n : Nat}, (∃ k ∈ set, (lvD asks lea set n k).1 = true) → n + 1 ≤ (set.filter fun k => (lvD asks lea set n k).2).length
  | 0, ⟨k, hk, h⟩ => by
    have : k ∈ set.filter fun k => (lvD asks lea set 0 k).2 := by simp [hk, lvD_seen h]
    exact List.length_pos_of_mem this
  | n + 1, ⟨k, hk, h⟩ => by
    obtain ⟨j, hj, hd, _⟩ := wayD_succ h
    have ih := lvD_count (n := n) ⟨j, hj, hd⟩
    have := count_lt (l := set) (p := fun k => (lvD asks lea set n k).2) (q := fun k => (lvD asks lea set (n + 1) k).2) (fun x _ hx => lvD_mono hx 1) ⟨k, hk, lvD_seen h, by
      cases e : (lvD asks lea set n k).2 with
      | false => rfl
      | true => simp [lvD, e] at h⟩
    omega
theorem lvD_lt {n : Nat} {k : Int} (hk : k ∈ set) (h : (lvD asks lea set n k).1 = true) : n < set.length := by
  have h1 := lvD_count ⟨k, hk, h⟩
  have h2 := List.length_filter_le (fun k => (lvD asks lea set n k).2) set
  omega
theorem lvD_end {n : Nat} (h : ∀ k ∈ set, (lvD asks lea set n k).1 = false) : ∀ (d : Nat) (k : Int), k ∈ set → (lvD asks lea set (n + d) k).1 = false
  | 0, k, hk => h k hk
  | d + 1, k, hk => by
    cases e : (lvD asks lea set (n + (d + 1)) k).1 with
    | false => rfl
    | true =>
      obtain ⟨j, hj, hd, _⟩ := wayD_succ (n := n + d) e
      rw [lvD_end h d j hj] at hd; cases hd
end
/-- The end of a way. -/
def lastW (w : List Int) : Int := w.getLast?.getD 0
def getK : List (Int × List Int) → Int → Option (List Int)
  | [], _ => none
  | p :: l, k => if k = p.1 then some p.2 else getK l k
theorem getK_append : ∀ (a b : List (Int × List Int)) (k : Int), getK (a ++ b) k = (getK a k).or (getK b k)
  | [], b, k => rfl
  | p :: a, b, k => by
    simp only [List.cons_append, getK]
    split
    · rfl
    · exact getK_append a b k
theorem getK_map (f : Int → List Int) : ∀ (ks : List Int) (k : Int), getK (ks.map fun k => (k, f k)) k = if k ∈ ks then some (f k) else none
  | [], k => by simp [getK]
  | j :: ks, k => by
    simp only [List.map_cons, getK, getK_map f ks k, List.mem_cons]
    by_cases h : k = j
    · subst h; simp
    · simp [h]
/-- To whom a way goes on. -/
def newK (lea : Int → Int → Bool) (set : List Int) (out : List (Int × List Int)) (way : List Int) : List Int := set.filter fun k => (getK out k).isNone && lea (lastW way) k
def rowW (lea : Int → Int → Bool) (set : List Int) (st : List (Int × List Int) × List (List Int)) (way : List Int) : List (Int × List Int) × List (List Int) :=
  (st.1 ++ (newK lea set st.1 way).map (fun k => (k, way ++ [k])), st.2 ++ (newK lea set st.1 way).map (fun k => way ++ [k]))
/-- The program's table of ways and its level. -/
def tabW (asks : Int → Bool) (lea : Int → Int → Bool) (set : List Int) : Nat → List (Int × List Int) × List (List Int)
  | 0 => ((set.filter asks).map fun k => (k, [k]), (set.filter asks).map fun k => [k])
  | n + 1 => (tabW asks lea set n).2.foldl (rowW lea set) ((tabW asks lea set n).1, [])
def fstW (lea : Int → Int → Bool) (ws : List (List Int)) (k : Int) : Option (List Int) := ws.find? fun w => lea (lastW w) k
structure LInv (lea : Int → Int → Bool) (set : List Int) (out : List (Int × List Int)) (ws : List (List Int)) (st : List (Int × List Int) × List (List Int)) : Prop where
  get : ∀ k v, getK st.1 k = some v ↔ getK out k = some v ∨ (getK out k = none ∧ k ∈ set ∧ ∃ w, fstW lea ws k = some w ∧ v = w ++ [k])
  mem : ∀ v, v ∈ st.2 ↔ ∃ k, k ∈ set ∧ getK out k = none ∧ ∃ w, fstW lea ws k = some w ∧ v = w ++ [k]
  sort : st.2.Pairwise fun a b => lessL a b = true
section
variable {asks : Int → Bool} {lea : Int → Int → Bool} {set : List Int}
theorem LInv.nn {out : List (Int × List Int)} {ws : List (List Int)} {st : List (Int × List Int) × List (List Int)} (h : LInv lea set out ws st) (k : Int) (hk : k ∈ set) : getK st.1 k = none ↔ getK out k = none ∧ fstW lea ws k = none := by
  constructor
  · intro h0
    have h1 : getK out k = none := by
      cases e : getK out k with
      | none => rfl
      | some v => rw [(h.get k v).2 (.inl e)] at h0; cases h0
    refine ⟨h1, ?_⟩
    cases e : fstW lea ws k with
    | none => rfl
    | some w => rw [(h.get k _).2 (.inr ⟨h1, hk, w, e, rfl⟩)] at h0; cases h0
  · rintro ⟨h1, h2⟩
    cases e : getK st.1 k with
    | none => rfl
    | some v =>
      rcases (h.get k v).1 e with h3 | ⟨_, _, w, h3, _⟩
      · rw [h1] at h3; cases h3
      · rw [h2] at h3; cases h3
theorem fstW_snoc (ws : List (List Int)) (way : List Int) (k : Int) : fstW lea (ws ++ [way]) k = (fstW lea ws k).or (if lea (lastW way) k = true then some way else none) := by
  unfold fstW
  rw [List.find?_append]
  congr 1
  simp only [List.find?_cons, List.find?_nil]
  cases lea (lastW way) k <;> rfl
theorem LInv.step {out : List (Int × List Int)} {ws : List (List Int)} {way : List Int} {st : List (Int × List Int) × List (List Int)} (h : LInv lea set out ws st) (hset : set.Pairwise (· < ·)) {n : Nat} (hn : ∀ w ∈ ws ++ [way], w.length = n)
    (hs : (ws ++ [way]).Pairwise fun a b => lessL a b = true) : LInv lea set out (ws ++ [way]) (rowW lea set st way) := by
  have hnew : ∀ k, k ∈ newK lea set st.1 way ↔ k ∈ set ∧ (getK out k = none ∧ fstW lea ws k = none) ∧ lea (lastW way) k = true := fun k => by
    unfold newK
    rw [List.mem_filter, Bool.and_eq_true, Option.isNone_iff_eq_none]
    constructor
    · rintro ⟨a, b, c⟩; exact ⟨a, (h.nn k a).1 b, c⟩
    · rintro ⟨a, b, c⟩; exact ⟨a, (h.nn k a).2 b, c⟩
  refine ⟨fun k v => ?_, fun v => ?_, ?_⟩
  · show getK (st.1 ++ (newK lea set st.1 way).map (fun k => (k, way ++ [k]))) k = some v ↔ _
    rw [getK_append, getK_map (fun k => way ++ [k]), fstW_snoc]
    cases e : getK st.1 k with
    | some u =>
      have := (h.get k u).1 e
      simp only [Option.some_or, Option.some.injEq]
      constructor
      · rintro rfl
        rcases this with q | ⟨q1, q2, w, q3, q4⟩
        · exact .inl q
        · exact .inr ⟨q1, q2, w, by rw [q3]; rfl, q4⟩
      · intro hv
        rcases this with q | ⟨q1, q2, w, q3, q4⟩
        · rcases hv with hv | ⟨hv, _⟩
          · rw [q] at hv; exact Option.some.inj hv
          · rw [q] at hv; cases hv
        · rcases hv with hv | ⟨_, _, w', hv, rfl⟩
          · rw [q1] at hv; cases hv
          · rw [q3] at hv
            obtain rfl := Option.some.inj hv
            exact q4
    | none =>
      simp only [Option.none_or]
      by_cases hk : k ∈ newK lea set st.1 way
      · rw [if_pos hk]
        obtain ⟨a, ⟨b1, b2⟩, c⟩ := (hnew k).1 hk
        rw [b2, if_pos c, b1]
        simp [a, eq_comm]
      · rw [if_neg hk]
        constructor
        · intro h0; cases h0
        · rintro (h0 | ⟨h1, h2, w, h3, rfl⟩)
          · rw [(h.get k v).2 (.inl h0)] at e; cases e
          · exfalso
            have hn' := (h.nn k h2).1 e
            rw [hn'.2] at h3
            simp only [Option.none_or] at h3
            split at h3
            · rename_i hl; exact hk ((hnew k).2 ⟨h2, hn', hl⟩)
            · cases h3
  · show v ∈ st.2 ++ (newK lea set st.1 way).map (fun k => way ++ [k]) ↔ _
    rw [List.mem_append, h.mem v]
    constructor
    · rintro (⟨k, a, b, w, c, d⟩ | hv)
      · exact ⟨k, a, b, w, by rw [fstW_snoc, c]; rfl, d⟩
      · obtain ⟨k, hk, rfl⟩ := List.mem_map.1 hv
        obtain ⟨a, ⟨b1, b2⟩, c⟩ := (hnew k).1 hk
        exact ⟨k, a, b1, way, by rw [fstW_snoc, b2, if_pos c]; rfl, rfl⟩
    · rintro ⟨k, a, b, w, c, rfl⟩
      rw [fstW_snoc] at c
      cases e : fstW lea ws k with
      | some w' =>
        rw [e] at c
        obtain rfl := Option.some.inj c
        exact .inl ⟨k, a, b, _, e, rfl⟩
      | none =>
        rw [e] at c
        simp only [Option.none_or] at c
        split at c
        · rename_i hl
          obtain rfl := Option.some.inj c
          exact .inr (List.mem_map.2 ⟨k, (hnew k).2 ⟨a, ⟨b, e⟩, hl⟩, rfl⟩)
        · cases c
  · show (st.2 ++ (newK lea set st.1 way).map (fun k => way ++ [k])).Pairwise _
    rw [List.pairwise_append] at hs ⊢
    refine ⟨h.sort, ?_, ?_⟩
    · rw [List.pairwise_map]
      exact (hset.sublist List.filter_sublist).imp fun hab => lessL_same way _ _ hab
    · intro v hv u hu
      obtain ⟨k, _, _, w, hw, rfl⟩ := (h.mem v).1 hv
      obtain ⟨k', _, rfl⟩ := List.mem_map.1 hu
      have hwm : w ∈ ws := List.mem_of_find?_eq_some hw
      exact lessL_app _ _ (by rw [hn w (by simp [hwm]), hn way (by simp)]) (hs.2.2 w hwm way (by simp))
theorem LInv.all {out : List (Int × List Int)} (hset : set.Pairwise (· < ·)) {n : Nat} : ∀ (post ws : List (List Int)) (st : List (Int × List Int) × List (List Int)), LInv lea set out ws st → (∀ w ∈ ws ++ post, w.length = n) →
    (ws ++ post).Pairwise (fun a b => lessL a b = true) → LInv lea set out (ws ++ post) (post.foldl (rowW lea set) st)
  | [], ws, st, h, _, _ => by simpa using h
  | way :: post, ws, st, h, hn, hs => by
    have e : ws ++ way :: post = (ws ++ [way]) ++ post := by simp
    rw [e] at hn hs ⊢
    exact LInv.all hset post (ws ++ [way]) _ (h.step hset (fun w hw => hn w (by simp only [List.mem_append] at hw ⊢; exact .inl hw)) (List.pairwise_append.1 hs).1) hn hs
theorem LInv.init (out : List (Int × List Int)) : LInv lea set out [] (out, []) := by
  refine ⟨fun k v => ⟨.inl, ?_⟩, fun v => ⟨fun h => by simp at h, ?_⟩, by simp⟩
  · rintro (h | ⟨_, _, w, h, _⟩)
    · exact h
    · simp [fstW] at h
  · rintro ⟨_, _, _, w, h, _⟩
    simp [fstW] at h
theorem find_min {R : List Int → List Int → Prop} {p : List Int → Bool} {w : List Int} : ∀ {l : List (List Int)}, l.Pairwise R → l.find? p = some w → ∀ v ∈ l, p v = true → v = w ∨ R w v
  | [], _, h, _, _, _ => by simp at h
  | u :: l, hs, h, v, hv, hp => by
    rw [List.pairwise_cons] at hs
    rw [List.find?_cons] at h
    split at h
    · obtain rfl := Option.some.inj h
      rcases List.mem_cons.1 hv with rfl | hv
      · exact .inl rfl
      · exact .inr (hs.1 v hv)
    · rename_i hu
      rcases List.mem_cons.1 hv with rfl | hv
      · rw [hp] at hu; cases hu
      · exact find_min hs.2 h v hv hp
structure TabWOK (asks : Int → Bool) (lea : Int → Int → Bool) (set : List Int) (n : Nat) : Prop where
  sort : (tabW asks lea set n).2.Pairwise fun a b => lessL a b = true
  mem : ∀ v, v ∈ (tabW asks lea set n).2 ↔ ∃ k ∈ set, (lvD asks lea set n k).1 = true ∧ v = wayD asks lea set n k
  get : ∀ k v, getK (tabW asks lea set n).1 k = some v ↔ ∃ m, m ≤ n ∧ k ∈ set ∧ (lvD asks lea set m k).1 = true ∧ v = wayD asks lea set m k
theorem lastW_wayD (n : Nat) (k : Int) : lastW (wayD asks lea set n k) = k := by unfold lastW; rw [wayD_last]; rfl
theorem tabW_ok (hset : set.Pairwise (· < ·)) : ∀ n, TabWOK asks lea set n
  | 0 => by
    refine ⟨?_, fun v => ?_, fun k v => ?_⟩
    · show ((set.filter asks).map fun k => [k]).Pairwise _
      rw [List.pairwise_map]
      exact (hset.sublist List.filter_sublist).imp fun {a b} hab => by simpa using lessL_same [] a b hab
    · show v ∈ (set.filter asks).map (fun k => [k]) ↔ _
      simp only [List.mem_map, List.mem_filter, lvD, wayD]
      constructor
      · rintro ⟨k, ⟨a, b⟩, rfl⟩; exact ⟨k, a, b, rfl⟩
      · rintro ⟨k, a, b, rfl⟩; exact ⟨k, ⟨a, b⟩, rfl⟩
    · show getK ((set.filter asks).map fun k => (k, [k])) k = some v ↔ _
      rw [getK_map (fun k => [k])]
      constructor
      · intro h
        split at h
        · rename_i hk
          rw [List.mem_filter] at hk
          exact ⟨0, Nat.le_refl _, hk.1, hk.2, (Option.some.inj h).symm⟩
        · cases h
      · rintro ⟨m, hm, h1, h2, rfl⟩
        obtain rfl : m = 0 := by omega
        rw [if_pos (by rw [List.mem_filter]; exact ⟨h1, h2⟩)]
        rfl
  | n + 1 => by
    have ih := tabW_ok hset n
    have hlen : ∀ w ∈ [] ++ (tabW asks lea set n).2, w.length = n + 1 := fun w hw => by
      obtain ⟨k, hk, hd, rfl⟩ := (ih.mem w).1 (by simpa using hw)
      exact wayD_len hd
    have hl := LInv.all (out := (tabW asks lea set n).1) hset (n := n + 1) (tabW asks lea set n).2 [] _ (LInv.init (lea := lea) (set := set) _) hlen (by simpa using ih.sort)
    rw [List.nil_append] at hl
    have hnone : ∀ k ∈ set, (getK (tabW asks lea set n).1 k = none ↔ (lvD asks lea set n k).2 = false) := fun k hk => by
      constructor
      · intro h
        cases e : (lvD asks lea set n k).2 with
        | false => rfl
        | true =>
          obtain ⟨m, h1, h2⟩ := lvD_seen_iff.1 e
          rw [(ih.get k _).2 ⟨m, h1, hk, h2, rfl⟩] at h; cases h
      · intro h
        cases e : getK (tabW asks lea set n).1 k with
        | none => rfl
        | some v =>
          obtain ⟨m, h1, _, h2, _⟩ := (ih.get k v).1 e
          rw [lvD_seen_iff.2 ⟨m, h1, h2⟩] at h; cases h
    have key : ∀ k v, (k ∈ set ∧ getK (tabW asks lea set n).1 k = none ∧ ∃ w, fstW lea (tabW asks lea set n).2 k = some w ∧ v = w ++ [k]) ↔ (k ∈ set ∧ (lvD asks lea set (n + 1) k).1 = true ∧ v = wayD asks lea set (n + 1) k) := fun k v => by
      have hb := bestW_ok (p := fun j => (lvD asks lea set n j).1 && lea j k) (W := wayD asks lea set n) (n := n) (fun j hj => wayD_len (by simp at hj; exact hj.1)) set
      have hsame : ∀ w, fstW lea (tabW asks lea set n).2 k = some w → bestW (fun j => (lvD asks lea set n j).1 && lea j k) (wayD asks lea set n) [] set = w ∧ ∃ j ∈ set, ((lvD asks lea set n j).1 && lea j k) = true := fun w hw => by
        obtain ⟨j, hj, hd, e⟩ := (ih.mem w).1 (List.mem_of_find?_eq_some hw)
        have hl' : lea (lastW w) k = true := by
          unfold fstW at hw
          simpa using List.find?_some hw
        rw [e, lastW_wayD] at hl'
        have hp : ((lvD asks lea set n j).1 && lea j k) = true := by rw [hd, hl']; rfl
        refine ⟨?_, j, hj, hp⟩
        obtain ⟨i, hi, hpi, ei⟩ := hb.ex ⟨j, hj, hp⟩
        rw [Bool.and_eq_true] at hpi
        have h1 := find_min ih.sort hw (wayD asks lea set n i) ((ih.mem _).2 ⟨i, hi, hpi.1, rfl⟩) (by rw [lastW_wayD]; exact hpi.2)
        have h2 := hb.le j hj hp
        rw [← e] at h2
        rw [← ei] at h1
        rcases h1 with h1 | h1
        · exact h1
        · rcases h2 with h2 | h2
          · exact h2
          · rw [lessL_asy h1] at h2; cases h2
      constructor
      · rintro ⟨a, b, w, c, rfl⟩
        obtain ⟨q1, j, q2, q3⟩ := hsame w c
        refine ⟨a, ?_, ?_⟩
        · simp only [lvD, (hnone k a).1 b, Bool.not_false, Bool.true_and, List.any_eq_true]
          exact ⟨j, q2, q3⟩
        · show _ = bestW _ _ [] set ++ [k]
          rw [q1]
      · rintro ⟨a, b, rfl⟩
        have hs : (lvD asks lea set n k).2 = false := by
          cases e : (lvD asks lea set n k).2 with
          | false => rfl
          | true => simp [lvD, e] at b
        obtain ⟨j, hj, hd, hlj, e⟩ := wayD_succ b
        cases hf : fstW lea (tabW asks lea set n).2 k with
        | none =>
          have := List.find?_eq_none.1 hf (wayD asks lea set n j) ((ih.mem _).2 ⟨j, hj, hd, rfl⟩)
          rw [lastW_wayD] at this
          exact absurd hlj this
        | some w =>
          refine ⟨a, (hnone k a).2 hs, w, rfl, ?_⟩
          show bestW _ _ [] set ++ [k] = _
          rw [(hsame w hf).1]
    refine ⟨hl.sort, fun v => ?_, fun k v => ?_⟩
    · refine (hl.mem v).trans ⟨?_, ?_⟩
      · rintro ⟨k, h⟩; exact ⟨k, (key k v).1 h⟩
      · rintro ⟨k, h⟩; exact ⟨k, (key k v).2 h⟩
    · refine (hl.get k v).trans ?_
      rw [ih.get k v]
      constructor
      · rintro (⟨m, h1, h2, h3, h4⟩ | ⟨h1, h2, h3⟩)
        · exact ⟨m, by omega, h2, h3, h4⟩
        · obtain ⟨q1, q2, q3⟩ := (key k v).1 ⟨h2, h1, h3⟩
          exact ⟨n + 1, Nat.le_refl _, q1, q2, q3⟩
      · rintro ⟨m, h1, h2, h3, h4⟩
        rcases Nat.lt_or_ge n m with q | q
        · obtain rfl : m = n + 1 := by omega
          obtain ⟨q1, q2, q3⟩ := (key k v).2 ⟨h2, h3, h4⟩
          exact .inr ⟨q2, q1, q3⟩
        · exact .inl ⟨m, q, h2, h3, h4⟩
/-- As the reference tells the way to k: none is the empty one. -/
def whyV (asks : Int → Bool) (lea : Int → Int → Bool) (set : List Int) (k : Int) : List Int := if farV asks lea set set.length k < 0 then [] else wayD asks lea set (farV asks lea set set.length k - 1).toNat k
theorem whyV_of {k : Int} (hk : k ∈ set) {m : Nat} (h : (lvD asks lea set m k).1 = true) : whyV asks lea set k = wayD asks lea set m k := by
  have := ((farV_eq (asks := asks) (lea := lea) (set := set) (n := set.length) (k := k)).1 m (Nat.le_of_lt (lvD_lt hk h))).2 h
  unfold whyV
  rw [this, if_neg (by omega)]
  congr 1
  omega
theorem farV_neg {k : Int} (hk : k ∈ set) : farV asks lea set set.length k < 0 ↔ (∀ m, (lvD asks lea set m k).1 = false) := by
  have hf := farV_eq (asks := asks) (lea := lea) (set := set) (n := set.length) (k := k)
  constructor
  · intro h m
    cases e : (lvD asks lea set m k).1 with
    | false => rfl
    | true =>
      rw [(hf.1 m (Nat.le_of_lt (lvD_lt hk e))).2 e] at h
      omega
  · intro h
    rw [hf.2 ?_]
    · omega
    · cases e : (lvD asks lea set set.length k).2 with
      | false => rfl
      | true =>
        obtain ⟨m, _, hm⟩ := lvD_seen_iff.1 e
        rw [h m] at hm; cases hm
theorem whyV_nil {k : Int} (hk : k ∈ set) : (whyV asks lea set k).length = 0 ↔ farV asks lea set set.length k < 0 := by
  constructor
  · intro h
    rw [farV_neg hk]
    intro m
    cases e : (lvD asks lea set m k).1 with
    | false => rfl
    | true =>
      rw [whyV_of hk e, wayD_len e] at h
      cases h
  · intro h
    unfold whyV
    rw [if_pos h]; rfl
/-- The table at the end. -/
theorem getK_why (hset : set.Pairwise (· < ·)) {n : Nat} (he : (tabW asks lea set n).2 = []) {k : Int} (hk : k ∈ set) : (getK (tabW asks lea set n).1 k).getD [] = whyV asks lea set k := by
  have ht := tabW_ok (asks := asks) (lea := lea) hset n
  have h0 : ∀ k ∈ set, (lvD asks lea set n k).1 = false := fun k hk => by
    cases e : (lvD asks lea set n k).1 with
    | false => rfl
    | true =>
      have := (ht.mem _).2 ⟨k, hk, e, rfl⟩
      rw [he] at this
      simp at this
  cases e : getK (tabW asks lea set n).1 k with
  | some v =>
    obtain ⟨m, h1, h2, h3, rfl⟩ := (ht.get k v).1 e
    rw [whyV_of hk h3]; rfl
  | none =>
    have hneg : farV asks lea set set.length k < 0 := (farV_neg hk).2 fun m => by
      cases e2 : (lvD asks lea set m k).1 with
      | false => rfl
      | true =>
        have hm : m ≤ n := by
          rcases Nat.lt_or_ge n m with q | q
          · have := lvD_end h0 (m - n) k hk
            rw [show n + (m - n) = m by omega, e2] at this; cases this
          · exact q
        rw [(ht.get k _).2 ⟨m, hm, hk, e2, rfl⟩] at e; cases e
    unfold whyV
    rw [if_pos hneg]; rfl
theorem tabW_lt (hset : set.Pairwise (· < ·)) {n : Nat} (he : (tabW asks lea set n).2 ≠ []) : n < set.length := by
  have ht := tabW_ok (asks := asks) (lea := lea) hset n
  obtain ⟨v, hv⟩ := List.exists_mem_of_ne_nil _ he
  obtain ⟨k, hk, hd, _⟩ := (ht.mem v).1 hv
  exact lvD_lt hk hd
end
end Go.Proofs.YtomfmdfamlmfiaaGreat

/- Regions that draw their order, of which some operations only read what nobody in it writes, and the others stand in one order. Plain theorems, no condition. -/
set_option linter.unusedVariables false
set_option linter.unusedSimpArgs false
namespace Go.Fw
section
variable {P : Program} {T : Nat → Option TI} {S : State} {o : Oper}
def Agree (G : Nat → Prop) (w w' : World) : Prop := ∀ b, G b → w'.heap[b]? = w.heap[b]?
/-- The operation yields a value told by x, the same one as long as what may be read stands. -/
def VOG (P : Program) (o : Oper) (S : State) (x : A) : Prop :=
  ∀ (E : Env P) (G : Nat → Prop) (gs : Gh) (a : Act) (w : World), Inv E G gs S a.tmps w →
    ∃ v, (∀ w', Agree G w w' → (execOp a.eval o).run P w' = .ok (.value v) w') ∧ TRel w G S.rows gs x v []
theorem VOG_move {x : Operand} (ho : o.op = .move x ∨ o.op = .assign x) (hx : okO x = true) : VOG P o S (ev S x) :=
  fun E G gs a w hi => ⟨a.eval x, fun w' hw' => by rcases ho with h | h <;> simp [execOp, h], ev_rel hi x hx⟩
theorem VOG_load_rp {t : TypeId} {x : Operand} {xs : List A} {z : A} (ho : o.op = .load t x) (hx : okO x = true) (he : ev S x = .rp xs)
    (ha : aggT P t = some false) (hz : xs[0]? = some z) : VOG P o S z := by
  refine fun E G gs a w hi => ?_
  have h1 := ev_rel hi x hx
  rw [he] at h1
  obtain ⟨b, k, cur, e, fr, hv, hh, hg, hl⟩ := rp_inv h1
  obtain ⟨v, hv1, hv2⟩ := hl.get 0 z hz
  have hcur : cur[k]? = some v := by
    have h0 : 0 < xs.length := by
      rcases Nat.eq_zero_or_pos xs.length with h | h
      · rw [List.eq_nil_of_length_eq_zero h] at hz; simp at hz
      · exact h
    rw [List.getElem?_take_of_lt h0, List.getElem?_drop] at hv1
    simpa using hv1
  exact ⟨v, fun w' hw' => by simp [execOp, ho, Instr.loadAt, hv, Instr.sureAddr, run_loadVar_cell ha ((hw' b hg).trans hh) hcur], .of hv2⟩
theorem VOG_load_rpAgg {t : TypeId} {x : Operand} {xs : List A} {s : Nat} (ho : o.op = .load t x) (hx : okO x = true) (he : ev S x = .rp xs)
    (ha : aggT P t = some true) (hs : szT P t = some s) (hq : s ≤ xs.length) : VOG P o S (.agg (xs.take s)) := by
  refine fun E G gs a w hi => ?_
  have h1 := ev_rel hi x hx
  rw [he] at h1
  obtain ⟨b, k, cur, e, fr, hv, hh, hg, hl⟩ := rp_inv h1
  have h2 := hl.take0 s
  have h3 := h2.length
  rw [List.take_take, Nat.min_eq_left hq] at h2 h3
  exact ⟨.agg ((cur.toList.drop k).take s).toArray, by
    intro w' hw'
    simp [execOp, ho, Instr.loadAt, hv, Instr.sureAddr, run_loadVar_agg ha hs ((hw' b hg).trans hh) rfl (by rw [h3]; simp; omega)], .of (.agg h2)⟩
theorem VOG_slice_sl {t e : TypeId} {x : Operand} {lo hi : Option Operand} {n : Nat} {xs : List A} {l h : Nat} (ho : o.op = .slice t x lo hi none) (hx : okO x = true) (hlo : okOpt lo = true) (hhi : okOpt hi = true)
    (he : ev S x = .sl false n xs) (ht : elemT P t = some e) (hs : szT P e = some n) (h1 : bnd (lo.map (ev S)) 0 = some (l : Int)) (h2 : bnd (hi.map (ev S)) xs.length = some (h : Int)) (hlh : l ≤ h) (hhl : h ≤ xs.length)
    : VOG P o S (.sl false n ((xs.take h).drop l)) := by
  refine fun E G gs a w hinv => ?_
  have e1 := ev_rel hinv x hx
  rw [he] at e1
  obtain ⟨a1, a2⟩ := opt_rel hinv lo hlo
  obtain ⟨b1, b2⟩ := opt_rel hinv hi hhi
  have hu := elemT_inv ht
  rcases slf_inv e1 with ⟨⟨oa, hv⟩, rfl⟩ | ⟨b, k, cap, cur, et, fr, hv, hh, hg, hw, hrel, hcap, hm⟩
  · simp at hhl
    subst hhl
    have : l = 0 := by omega
    subst this
    have hb := slice_bounds (P := P) (isS := true) (lo.map a.eval) (hi.map a.eval) _ _ h1 h2 a1 a2 b1 b2 (by omega) (by simp) (cap := 0) (by simp)
    simp only [List.length_nil] at hb
    refine ⟨.slice oa 0 0, ?_, .of (by cases oa with | none => simpa using Rel.nils | some ad => simpa using Rel.roz)⟩
    intro w' hw'
    cases oa <;>
    simp [execOp, ho, hv, Instr.sliceAt, run_underlying hu, Instr.slice, hb, run_sizeOf hs]
  · have hb := slice_bounds (P := P) (isS := true) (lo.map a.eval) (hi.map a.eval) _ _ h1 h2 a1 a2 b1 b2 hlh hhl hcap
    have hlen : h - l = ((xs.take h).drop l).length := by simp; omega
    refine ⟨.slice (some ⟨b, if cap = l then k else k + l * n, none⟩) (h - l) (cap - l), ?_, .of (.ro hh hg (fun x hx => hw x (List.mem_of_mem_take (List.mem_of_mem_drop hx))) hlen rfl ?_ (by omega) (by omega))⟩
    · intro w' hw'
      simp [execOp, ho, hv, Instr.sliceAt, run_underlying hu, Instr.slice, hb, run_sizeOf hs]
      split <;> simp [add_none]
    · have h3 := (hrel.take0 (h * n)).drop0 (l * n)
      rw [flat_take h hw, flat_drop l (fun x hx => hw x (List.mem_of_mem_take hx))] at h3
      have hle : h * n ≤ xs.length * n := Nat.mul_le_mul_right _ hhl
      have e4 : List.drop (l * n) (List.take (h * n) (List.take (xs.length * n) (cur.toList.drop k))) = (cur.toList.drop (k + l * n)).take ((h - l) * n) := by
        rw [List.take_take, Nat.min_eq_left hle, List.drop_take, List.drop_drop, ← Nat.sub_mul]
      rw [e4] at h3
      split
      · rename_i hc
        have h0 : h - l = 0 := by omega
        rw [h0] at h3 ⊢
        simpa using h3
      · exact h3
theorem VOG_binOp {op : BinOp} {t t' : TypeId} {x y : Operand} {u v : Value} (ho : o.op = .binOp op t x y t') (hx : okO x = true) (hy : okO y = true)
    (h1 : ev S x = .sc u) (h2 : ev S y = .sc v) (h : (binS P op t u v).1) : VOG P o S (.sc (binS P op t u v).2) := by
  refine fun E G gs a w hi => ?_
  have e1 := ev_rel hi x hx
  have e2 := ev_rel hi y hy
  rw [h1] at e1
  rw [h2] at e2
  have v1 := (sc_inv e1).1
  have v2 := (sc_inv e2).1
  refine ⟨_, fun w' hw' => ?_, .of (.sc (binS_run h x y w).2)⟩
  have hr := (binS_run h x y w').1
  simp only [execOp, ho, v1, v2, Sem.run_bind] at hr ⊢
  rw [hr]
  rfl
theorem VOG_makeFunc {fn : FuncId} {first caps : Array Operand} (ho : o.op = .makeFunc (.func fn) first caps) (hf : first.toList = []) (hg : fn < 1000000) : VOG P o S (.clo fn (caps.toList.map (ev S))) := by
  refine fun E G gs a w hi => ⟨mkFn fn (caps.toList.map a.eval), fun w' hw' => ?_, .clo (evs_rel hi caps.toList)⟩
  have : first = #[] := by apply Array.toList_inj.1; simpa using hf
  subst this
  have e : (caps.toList.map a.eval).toArray = caps.map a.eval := by apply Array.toList_inj.1; simp
  unfold mkFn
  rw [if_pos hg, e]
  simp [execOp, ho, Instr.makeFunc]
theorem vBin_sc (hT : TabOK P T) {k : A → Prop} {op : BinOp} {t : TypeId} {x y : A} (h : vBin std T op t x y k) : ∃ u v, x = .sc u ∧ y = .sc v ∧ (binS P op t u v).1 ∧ k (.sc (binS P op t u v).2) := by
  unfold vBin at h
  split at h <;> try exact h.elim
  · rename_i ka a kb b
    have go : (binS P op t (.int ka a) (.int kb b)).1 → k (.sc (binS P op t (.int ka a) (.int kb b)).2) → ∃ u v, A.sc (.int ka a) = .sc u ∧ A.sc (.int kb b) = .sc v ∧ (binS P op t u v).1 ∧ k (.sc (binS P op t u v).2) := fun hc hk => ⟨_, _, rfl, rfl, hc, hk⟩
    unfold vBinI at h
    split at h
    · exact go h.1.h h.2
    · exact go h.1.h h.2
    · split at h <;> try exact h.elim
      rename_i hk
      subst hk
      split at h
      · exact go rfl h
      · exact go rfl h
      · exact go rfl h
      · exact go rfl h
      · exact go rfl h
      · exact go rfl h
      · exact go rfl h
      · exact go ⟨rfl, h.1.h⟩ h.2
      · exact go ⟨rfl, h.1.h⟩ h.2
      · cases op <;> first | exact go rfl h | simp_all
  · rename_i a b
    have go : (binS P op t (.string a) (.string b)).1 → k (.sc (binS P op t (.string a) (.string b)).2) → ∃ u v, A.sc (.string a) = .sc u ∧ A.sc (.string b) = .sc v ∧ (binS P op t u v).1 ∧ k (.sc (binS P op t u v).2) := fun hc hk => ⟨_, _, rfl, rfl, hc, hk⟩
    unfold vBinS at h
    split at h <;> try exact h.elim
    · exact go h.1.h h.2
    all_goals exact go trivial h
  · rename_i a b
    split at h <;> try exact h.elim
    · rename_i i hi
      split at h <;> try exact h.elim
      rename_i hb
      exact ⟨_, _, rfl, rfl, by rw [← (tiOf_ok (hT _ _ hi)).bool] at hb; exact hb, h⟩
    · rename_i i hi
      split at h <;> try exact h.elim
      rename_i hb
      exact ⟨_, _, rfl, rfl, by rw [← (tiOf_ok (hT _ _ hi)).bool] at hb; exact hb, h⟩
/-- What an operation reads that nobody writes. -/
def vGOp (Ω : Opq) (T : Nat → Option TI) (o : Oper) (S : State) (k : A → Prop) : Prop :=
  match o.op with
  | .move x => k (ev S x)
  | .assign x => k (ev S x)
  | .binOp op t x y _ => vBin Ω T op t (ev S x) (ev S y) k
  | .load t x => (match T t, ev S x with
    | some i, .rp xs => if i.ag then (if i.sz ≤ xs.length then k (.agg (xs.take i.sz)) else False) else (match xs[0]? with
      | some z => k z
      | none => False)
    | _, _ => False)
  | .slice t x lo hi none => (match ev S x, szEl T t with
    | .sl false n xs, some (_, ei) => if ei.sz = n then vLo Ω (lo.map (ev S)) 0 fun c1 l => vLo Ω (hi.map (ev S)) (Ω.len xs) fun c2 h => Ob (fun _ => c1 () ∧ c2 () ∧ l ≤ h ∧ h ≤ xs.length) ∧ k (.sl false n (Ω.seg l h xs)) else False
    | _, _ => False)
  | .makeFunc (.func g) first caps => (match first.toList with
    | [] => if g < 1000000 then k (.clo g (caps.toList.map (ev S))) else False
    | _ => False)
  | _ => False
theorem vGOp_ok (hT : TabOK P T) {k : A → Prop} (h : vGOp std T o S k) : ∃ z, VOG P o S z ∧ k z := by
  have ok : ∀ x : Option Operand, okOpt x = true := fun x => by cases x <;> rfl
  unfold vGOp at h
  split at h
  · rename_i x ho; exact ⟨_, VOG_move (.inl ho) rfl, h⟩
  · rename_i x ho; exact ⟨_, VOG_move (.inr ho) rfl, h⟩
  · rename_i ho
    obtain ⟨u, v, h1, h2, h3, h4⟩ := vBin_sc hT h
    exact ⟨_, VOG_binOp ho rfl rfl h1 h2 h3, h4⟩
  · rename_i t x ho
    split at h <;> try exact h.elim
    rename_i i xs hi hx
    have hti := tiOf_ok (hT _ _ hi)
    split at h
    · rename_i hag
      split at h <;> try exact h.elim
      rename_i hle
      exact ⟨_, VOG_load_rpAgg ho rfl hx (by rw [hti.ag, hag]) hti.sz hle, h⟩
    · rename_i hag
      split at h <;> try exact h.elim
      rename_i z hz
      exact ⟨_, VOG_load_rp ho rfl hx (by rw [hti.ag]; simpa using hag) hz, h⟩
  · rename_i t x lo hi ho
    split at h <;> try exact h.elim
    rename_i n xs e ei hx hs
    obtain ⟨he, hei⟩ := szEl_ok hT hs
    split at h <;> try exact h.elim
    rename_i hn
    obtain ⟨c1, l, h, g1⟩ := vLo_ok h
    obtain ⟨c2, u, h, g2⟩ := vLo_ok h
    obtain ⟨h0, h⟩ := h
    obtain ⟨h1, h2, h3, h4⟩ := h0.h
    exact ⟨_, VOG_slice_sl ho rfl (ok _) (ok _) hx he (by rw [hei.sz, hn]) (g1 h1) (g2 h2) h3 h4, h⟩
  · rename_i g first caps ho
    split at h <;> try exact h.elim
    rename_i hf
    split at h <;> try exact h.elim
    rename_i hg
    exact ⟨_, VOG_makeFunc ho hf hg, h⟩
  · exact h.elim
/-- The surroundings from the region's own beginning on. -/
def envAt (E : Env P) (G : Nat → Prop) (gs : Gh) (S : State) (w : World) : Env P :=
  ⟨w, G, fun b => ∃ r row, rowAt S.rows r = some row ∧ b ∈ gs.all r, E.gv⟩
theorem Inv.at {E : Env P} {G : Nat → Prop} {gs : Gh} {tmps : Array Value} {w : World} (hi : Inv E G gs S tmps w) : Inv (envAt E G gs S w) G gs S tmps w :=
  ⟨fun _ _ _ => rfl, rfl, rfl, rfl, Nat.le_refl _, hi.sz, fun _ h => h, fun _ h => .inl h, hi.glt, hi.row, hi.nod, fun r row hr b hb => ⟨(hi.own r row hr b hb).1, .inl ⟨r, row, hr, hb⟩⟩, hi.dis, hi.tmp⟩
theorem Inv.back {E : Env P} {G G' : Nat → Prop} {gs gs' : Gh} {S' : State} {tmps tmps' : Array Value} {w w' : World} (hi : Inv E G gs S tmps w) (hi' : Inv (envAt E G gs S w) G' gs' S' tmps' w') : Inv E G' gs' S' tmps' w' := by
  have hfin : ∀ b, (∃ r row, rowAt S.rows r = some row ∧ b ∈ gs.all r) → E.Fin b ∨ E.w0.heap.size ≤ b := fun b ⟨r, row, hr, hb⟩ => (hi.own r row hr b hb).2
  refine ⟨fun b h hf => ?_, hi'.os.trans hi.os, hi'.tape.trans hi.tape, hi'.output.trans hi.output, Nat.le_trans hi.size hi'.size, hi'.sz, fun b h => hi'.gsub b (hi.gsub b h), fun b h => ?_, hi'.glt, hi'.row, hi'.nod, fun r row hr b hb => ?_, hi'.dis, hi'.tmp⟩
  · rw [hi'.keep b (Nat.lt_of_lt_of_le h hi.size) fun hb => by
      rcases hfin b hb with h1 | h1
      · exact hf h1
      · omega]
    exact hi.keep b h hf
  · rcases hi'.gnew b h with h1 | ⟨r, row, hr, hb⟩ | h1
    · exact hi.gnew b h1
    · exact .inr (hi.own r row hr b hb).2
    · exact .inr (.inr (Nat.le_trans hi.size h1))
  · refine ⟨(hi'.own r row hr b hb).1, ?_⟩
    rcases (hi'.own r row hr b hb).2 with h1 | h1
    · exact hfin b h1
    · exact .inr (Nat.le_trans hi.size h1)
theorem Inv.agree {E : Env P} {G G' : Nat → Prop} {gs gs' : Gh} {S' : State} {tmps tmps' : Array Value} {w w' : World} (hi : Inv E G gs S tmps w) (hi' : Inv (envAt E G gs S w) G' gs' S' tmps' w') : Agree G w w' := fun b hb =>
  hi'.keep b (hi.glt b hb) fun ⟨r, row, hr, h⟩ => (hi.own r row hr b h).1 hb
end
end Go.Fw

/- Regions that draw their order, in which operations read rows that others leave alone for a while. Plain theorems, no condition. -/
set_option linter.unusedVariables false
set_option linter.unusedSimpArgs false
namespace Go.Fw

/-! The order of a region: what keeps a condition on the world, and what need not. -/
section
variable {P : Program} {ops : Array Oper} {Q : Exit → Act → World → Prop} {md : Region.Mode} {kp : Nat → Bool} {Sc : World → Prop}
end

/-! Rows that are lent: for a while nothing is told of them but that they stand. -/
mutual
/-- It leads into rows rs alone. -/
def onlyR (rs : List Nat) : A → Bool
  | .vw r _ _ => rs.contains r
  | .pt r _ _ => rs.contains r
  | .agg xs => onlyRL rs xs
  | .tup xs => onlyRL rs xs
  | .clo _ xs => onlyRL rs xs
  | .un => true
  | .sc _ => true
  | .nil => true
  | .sl _ _ _ => true
  | .rp _ => true
  | .bx _ => true
  | .mp r => rs.contains r
  | .rmp _ => true
  | .al _ x => onlyR rs x
def onlyRL (rs : List Nat) : List A → Bool
  | [] => true
  | x :: xs => onlyR rs x && onlyRL rs xs
end
theorem onlyRL_eq (rs : List Nat) : ∀ xs : List A, onlyRL rs xs = xs.all (onlyR rs)
  | [] => rfl
  | x :: xs => by rw [onlyRL, onlyRL_eq rs xs, List.all_cons]
theorem TRel.on {w w' : World} {G G' : Nat → Prop} {rows rows' : List (Option Row)} {gs gs' : Gh} {rs : List Nat} (hG : ∀ b, G b → G' b ∧ w'.heap[b]? = w.heap[b]?) (hR : ∀ r ∈ rs, RowLe w w' rows rows' gs gs' r)
    {x : A} {v : Value} {F : List Nat} (h : TRel w G rows gs x v F) (ho : onlyR rs x = true) (hF : ∀ b ∈ F, w'.heap[b]? = w.heap[b]?) : TRel w' G' rows' gs' x v F := by
  refine TRel.rec (motive_1 := fun x v F _ => onlyR rs x = true → (∀ b ∈ F, w'.heap[b]? = w.heap[b]?) → TRel w' G' rows' gs' x v F)
    (motive_2 := fun xs vs F _ => xs.all (onlyR rs) = true → (∀ b ∈ F, w'.heap[b]? = w.heap[b]?) → TRelL w' G' rows' gs' xs vs F) ?_ ?_ ?_ ?_ ?_ ?_ ?_ ?_ ?_ ?_ ?_ ?_ h ho hF
  · intros; exact .un
  · intro x v F h _ hF; exact .of (h.move_ hG hF)
  · intro r off len k cap b row cur e hr hob hl hh hs hm hc hk ho _
    obtain ⟨row', hr', hg, hn, hx, hb⟩ := (hR r (by simpa [onlyR] using ho)).le row hr
    obtain ⟨cur', e', hh', hs'⟩ := hb b cur e hob hh
    exact .vw hr' (by rw [hg]; exact hob) (by omega) hh' (by rw [hs', hs, hn]) hm (by omega) (by rw [hn]; exact hk)
  · intro r row hr hob hxs ho _
    obtain ⟨row', hr', hg, hn, hx, hb⟩ := (hR r (by simpa [onlyR] using ho)).le row hr
    exact .vwn hr' (by rw [(hR r (by simpa [onlyR] using ho)).nn row hr (by rw [hob])]; exact hob) (by rw [hxs] at hx; exact List.eq_nil_of_length_eq_zero hx)
  · intro r j o k b row hr hob hk ho _
    obtain ⟨row', hr', hg, hn, hx, hb⟩ := (hR r (by simpa [onlyR] using ho)).le row hr
    exact .pt hr' (by rw [hg]; exact hob) (by rw [hn]; exact hk)
  · intro xs cs F hl ih ho hF; exact .agg (ih (by rw [← onlyRL_eq]; simpa [onlyR] using ho) hF)
  · intro xs cs F hl ih ho hF; exact .tup (ih (by rw [← onlyRL_eq]; simpa [onlyR] using ho) hF)
  · intro g caps cs F hl ih ho hF; exact .clo (ih (by rw [← onlyRL_eq]; simpa [onlyR] using ho) hF)
  · intro r b row hr hob ho _
    obtain ⟨row', hr', hg, hn, hx, hb⟩ := (hR r (by simpa [onlyR] using ho)).le row hr
    exact .mp hr' (by rw [(hR r (by simpa [onlyR] using ho)).nn row hr (by rw [hob])]; exact hob)
  · intro x v F h ih ho hF; exact .al (ih (by simpa [onlyR] using ho) hF)
  · intro _ _; exact .nil
  · intro x v F xs vs Fs h hl ih ih' ho hF
    rw [List.all_cons, Bool.and_eq_true] at ho
    exact .cons (ih ho.1 fun b hb => hF b (by simp [hb])) (ih' ho.2 fun b hb => hF b (by simp [hb]))
theorem TRelL.on {w w' : World} {G G' : Nat → Prop} {rows rows' : List (Option Row)} {gs gs' : Gh} {rs : List Nat} (hG : ∀ b, G b → G' b ∧ w'.heap[b]? = w.heap[b]?) (hR : ∀ r ∈ rs, RowLe w w' rows rows' gs gs' r) :
    ∀ {xs : List A} {vs : List Value} {F : List Nat}, TRelL w G rows gs xs vs F → xs.all (onlyR rs) = true → (∀ b ∈ F, w'.heap[b]? = w.heap[b]?) → TRelL w' G' rows' gs' xs vs F
  | _, _, _, .nil, _, _ => .nil
  | _, _, _, .cons h hl, ho, hF => by
    rw [List.all_cons, Bool.and_eq_true] at ho
    exact .cons (h.on hG hR ho.1 fun b hb => hF b (by simp [hb])) (hl.on hG hR ho.2 fun b hb => hF b (by simp [hb]))
def rowOnly (rs : List Nat) (row : Row) : Bool := !row.lk || (flat row.xs).all (onlyR rs)
theorem RowRel.on {w w' : World} {G G' : Nat → Prop} {rows rows' : List (Option Row)} {gs gs' : Gh} {rs : List Nat} (hG : ∀ b, G b → G' b ∧ w'.heap[b]? = w.heap[b]?) (hR : ∀ r ∈ rs, RowLe w w' rows rows' gs gs' r)
    {row : Row} {ob : Option Nat} {F : List Nat} (h : RowRel w G rows gs row ob F) (ho : rowOnly rs row = true) (hF : ∀ b ∈ ob.toList ++ F, w'.heap[b]? = w.heap[b]?) : RowRel w' G' rows' gs' row ob F := by
  cases ob with
  | none => exact h.imp id fun h => h.step hG hF
  | some b =>
    obtain ⟨cur, e, cap, h1, h2, h3, h4, h5, h6, h7⟩ := h.ex
    have hF' : ∀ c ∈ F, w'.heap[c]? = w.heap[c]? := fun c hc => hF c (by simp [hc])
    refine ⟨cur, e, cap, by rw [hF b (by simp)]; exact h1, h2, h3, h4, h5, h6, ?_⟩
    unfold CellsRel at h7 ⊢
    split
    · rename_i hl
      rw [if_pos hl] at h7
      exact h7.on hG hR (by simpa [rowOnly, hl] using ho) hF'
    · rename_i hl
      rw [if_neg hl] at h7
      exact h7.move_ hG hF'

section
variable {P : Program} {T : Nat → Option TI} {E : Env P} {G : Nat → Prop} {gs : Gh} {S : State} {a : Act} {w : World} {tmps : Array Value}
def AgreeR (G : Nat → Prop) (gs : Gh) (rs : List Nat) (w w' : World) : Prop := ∀ b, (G b ∨ ∃ r ∈ rs, b ∈ gs.all r) → w'.heap[b]? = w.heap[b]?
end
end Go.Fw

/- Regions that draw their order, in which some operations read rows that others leave alone: what is read, and the rule. Plain theorems, no condition. -/
set_option linter.unusedVariables false
set_option linter.unusedSimpArgs false
namespace Go.Fw
section
variable {P : Program} {T : Nat → Option TI} {S : State} {o : Oper} {rs : List Nat}
/-- The operation yields a value told by x, the same one as long as what may be read, and rows rs, stand. -/
def VOR (P : Program) (o : Oper) (S : State) (rs : List Nat) (x : A) : Prop :=
  ∀ (E : Env P) (G : Nat → Prop) (gs : Gh) (a : Act) (w : World), Inv E G gs S a.tmps w →
    ∃ v, (∀ w', AgreeR G gs rs w w' → (execOp a.eval o).run P w' = .ok (.value v) w') ∧ TRel w G S.rows gs x v []
theorem VOG.r {x : A} (h : VOG P o S x) : VOR P o S rs x := fun E G gs a w hi => by
  obtain ⟨v, h1, h2⟩ := h E G gs a w hi
  exact ⟨v, fun w' hw' => h1 w' fun b hb => hw' b (.inl hb), h2⟩
theorem VOR_load_pt {t : TypeId} {x : Operand} {r j q : Nat} {row : Row} {y z : A} (ho : o.op = .load t x) (hx : okO x = true) (he : ev S x = .pt r j q) (hr : rowAt S.rows r = some row) (hrs : r ∈ rs)
    (hy : row.xs[j]? = some y) (ha : aggT P t = some false) (hz : y.cells[q]? = some z) (hno : noOwn z = true) : VOR P o S rs z := by
  refine fun E G gs a w hi => ?_
  have h1 := ev_rel hi x hx
  rw [he] at h1
  obtain ⟨row', b, hr', hb, hv⟩ := pt_inv h1
  rw [hr] at hr'
  obtain rfl := Option.some.inj hr'
  have hq : q < y.cells.length := by
    rcases Nat.lt_or_ge q y.cells.length with h | h
    · exact h
    · rw [List.getElem?_eq_none h] at hz; simp at hz
  have hw : y.width = row.n := by
    obtain ⟨b', _, hrc⟩ := row_real hi hr (by
      intro h0
      rw [List.eq_nil_of_length_eq_zero h0] at hy
      simp at hy) (.inr ⟨_, hb⟩)
    obtain ⟨_, _, _, _, _, _, _, h5, _⟩ := hrc.ex
    exact h5 y (List.mem_of_getElem? hy)
  unfold A.width at hw
  have hseg : (y.cells.drop q).take 1 = [z] := by
    rw [List.drop_eq_getElem_cons hq]
    rw [List.getElem?_eq_getElem hq] at hz
    simp only [Option.some.injEq] at hz
    simp [hz]
  obtain ⟨b1, cur, e, cs, g0, g1, g2, g3, g4⟩ := row_seg hi hr hy (o := q) (s := 1) (by omega) (by rw [hseg]; simpa using hno) (.inr ⟨_, hb⟩)
  rw [hb] at g0
  obtain rfl := Option.some.inj g0
  rw [hseg] at g3
  obtain ⟨v, hv1, hv2⟩ := g3.get 0 z rfl
  have hcur : cur[j * row.n + q]? = some v := by
    rw [← g2] at hv1
    rw [List.getElem?_take_of_lt (by omega), List.getElem?_drop] at hv1
    simpa using hv1
  exact ⟨v, fun w' hw' => by simp [execOp, ho, Instr.loadAt, hv, Instr.sureAddr, run_loadVar_cell ha ((hw' _ (.inr ⟨r, hrs, by simp [Gh.all, hb]⟩)).trans g1) hcur], hv2⟩
theorem VOR_load_ptAgg {t : TypeId} {x : Operand} {r j q s : Nat} {row : Row} {y : A} (ho : o.op = .load t x) (hx : okO x = true) (he : ev S x = .pt r j q) (hr : rowAt S.rows r = some row) (hrs : r ∈ rs)
    (hy : row.xs[j]? = some y) (ha : aggT P t = some true) (hs : szT P t = some s) (hq : q + s ≤ row.n) (hno : ((y.cells.drop q).take s).all noOwn = true) : VOR P o S rs (.agg ((y.cells.drop q).take s)) := by
  refine fun E G gs a w hi => ?_
  have h1 := ev_rel hi x hx
  rw [he] at h1
  obtain ⟨row', b, hr', hb, hv⟩ := pt_inv h1
  rw [hr] at hr'
  obtain rfl := Option.some.inj hr'
  obtain ⟨b1, cur, e, cs, g0, g1, g2, g3, g4⟩ := row_seg hi hr hy hq hno (.inr ⟨_, hb⟩)
  rw [hb] at g0
  obtain rfl := Option.some.inj g0
  exact ⟨.agg cs.toArray, fun w' hw' => by simp [execOp, ho, Instr.loadAt, hv, Instr.sureAddr, run_loadVar_agg ha hs ((hw' _ (.inr ⟨r, hrs, by simp [Gh.all, hb]⟩)).trans g1) g2 g4], .agg g3⟩
theorem VOR_fieldAddr_pt {t : TypeId} {x : Operand} {i r j q off s : Nat} {g : Bool} (ho : o.op = .fieldAddr t x i) (hx : okO x = true) (he : ev S x = .pt r j q)
    (hf : fieldT P t i = some (off, s, g)) (hs : s ≠ 0) : VOR P o S rs (.pt r j (q + off)) := by
  refine fun E G gs a w hi => ?_
  have h1 := ev_rel hi x hx
  rw [he] at h1
  obtain ⟨row, b, hr, hb, hv⟩ := pt_inv h1
  unfold fieldT at hf
  split at hf <;> try simp at hf
  rename_i fs hu
  split at hf <;> try simp at hf
  rename_i f hfi
  split at hf <;> try simp at hf
  rename_i s' g' hsz hag
  obtain ⟨rfl, rfl, rfl⟩ := hf
  refine ⟨.pointer (some ⟨b, j * row.n + (q + f.offset), none⟩), ?_, .pt hr hb rfl⟩
  intro w' hw'
  simp [execOp, ho, Instr.fieldAt, run_underlying hu, hfi, hv, Instr.sureAddr, fieldPlace, run_sizeOf hsz, hs, add_none, Nat.add_assoc]
theorem VOR_fieldAddr_rp {t : TypeId} {x : Operand} {xs : List A} {i off s : Nat} {g : Bool} (ho : o.op = .fieldAddr t x i) (hx : okO x = true) (he : ev S x = .rp xs)
    (hf : fieldT P t i = some (off, s, g)) (hs : s ≠ 0) : VOR P o S rs (.rp (xs.drop off)) := by
  refine fun E G gs a w hi => ?_
  have h1 := ev_rel hi x hx
  rw [he] at h1
  obtain ⟨b, k, cur, e, fr, hv, hh, hg, hl⟩ := rp_inv h1
  unfold fieldT at hf
  split at hf <;> try simp at hf
  rename_i fs hu
  split at hf <;> try simp at hf
  rename_i f hfi
  split at hf <;> try simp at hf
  rename_i s' g' hsz hag
  obtain ⟨rfl, rfl, rfl⟩ := hf
  refine ⟨.pointer (some ⟨b, k + f.offset, none⟩), ?_, .of (.rp hh hg rfl ?_)⟩
  · intro w' hw'
    simp [execOp, ho, Instr.fieldAt, run_underlying hu, hfi, hv, Instr.sureAddr, fieldPlace, run_sizeOf hsz, hs, add_none]
  · have := hl.drop0 f.offset
    rw [List.drop_take, List.drop_drop] at this
    simpa using this
theorem VOR_indexAddr_vw {t e : TypeId} {x y : Operand} {r off len : Nat} {k : IntKind} {i : Int} {row : Row} (ho : o.op = .indexAddr t x y) (hx : okO x = true) (hy : okO y = true)
    (h1 : ev S x = .vw r off len) (h2 : ev S y = .sc (.int k i)) (hr : rowAt S.rows r = some row) (he : elemT P t = some e) (hs : szT P e = some row.n) (h0 : 0 ≤ i) (hl : i < len)
    : VOR P o S rs (.pt r (off + i.toNat) 0) := by
  refine fun E G gs a w hi => ?_
  have e1 := ev_rel hi x hx
  have e2 := ev_rel hi y hy
  rw [h1] at e1
  rw [h2] at e2
  obtain ⟨row', kk, cap, cur, et, b, hr', hob, g1, g2, g3, g4, g5, g6, hv⟩ := (vw_inv e1).resolve_right (by
    intro ⟨_, _, _, _, _, h0, _⟩
    omega)
  rw [hr] at hr'
  obtain rfl := Option.some.inj hr'
  have hv2 := (sc_inv e2).1
  have hk : kk = off * row.n := by rcases g6 with h | h <;> omega
  subst hk
  refine ⟨_, ?_, .pt hr hob rfl⟩
  intro w' hw'
  simp [execOp, ho, hv, hv2, Instr.indexAt, asIntOf, run_underlying (elemT_inv he), h0, hl, run_sizeOf hs, add_none, Nat.add_mul]
theorem VOR_indexAddr_sl {t e : TypeId} {x y : Operand} {n : Nat} {xs : List A} {k : IntKind} {i : Int} {z : A} (ho : o.op = .indexAddr t x y) (hx : okO x = true) (hy : okO y = true)
    (h1 : ev S x = .sl false n xs) (h2 : ev S y = .sc (.int k i)) (he : elemT P t = some e) (hs : szT P e = some n) (h0 : 0 ≤ i) (hz : xs[i.toNat]? = some z)
    : VOR P o S rs (.rp z.cells) := by
  refine fun E G gs a w hi => ?_
  have e1 := ev_rel hi x hx
  have e2 := ev_rel hi y hy
  rw [h1] at e1
  rw [h2] at e2
  have hv2 := (sc_inv e2).1
  have hl : i.toNat < xs.length := by
    rcases Nat.lt_or_ge i.toNat xs.length with h | h
    · exact h
    · rw [List.getElem?_eq_none h] at hz; simp at hz
  rcases slf_inv e1 with ⟨_, rfl⟩ | ⟨b, kk, cap, cur, et, fr, hv, hh, hg, hw, hrel, hcap, hm⟩
  · simp at hl
  · refine ⟨.pointer (some ⟨b, kk + i.toNat * n, none⟩), ?_, .of (.rp hh hg rfl ?_)⟩
    · have : i < (xs.length : Int) := by omega
      intro w' hw'
      simp [execOp, ho, hv, hv2, Instr.indexAt, asIntOf, run_underlying (elemT_inv he), h0, this, run_sizeOf hs, add_none]
    · have h3 := (hrel.drop0 (i.toNat * n)).take0 n
      have hseg := flat_seg hw hz 0 n (by omega)
      simp only [Nat.add_zero, List.drop_zero] at hseg
      have hzw := hw z (List.mem_of_getElem? hz)
      unfold A.width at hzw
      rw [hseg, ← hzw, List.take_length, hzw] at h3
      have hle : (i.toNat + 1) * n ≤ xs.length * n := Nat.mul_le_mul_right _ hl
      rw [Nat.add_mul] at hle
      rw [List.drop_take, List.take_take, Nat.min_eq_left (by omega), List.drop_drop] at h3
      rw [hzw]
      exact h3
theorem VOR_nilCheck_pt {x : Operand} {r j q : Nat} (ho : o.op = .nilCheck x) (hx : okO x = true) (he : ev S x = .pt r j q)
    : VOR P o S rs (.pt r j q) := by
  refine fun E G gs a w hi => ?_
  have h1 := ev_rel hi x hx
  rw [he] at h1
  obtain ⟨row, b, hr, hb, hv⟩ := pt_inv h1
  exact ⟨_, fun w' hw' => by simp [execOp, ho, hv], hv ▸ h1⟩
theorem VOR_nilCheck_rp {x : Operand} {xs : List A} (ho : o.op = .nilCheck x) (hx : okO x = true) (he : ev S x = .rp xs)
    : VOR P o S rs (.rp xs) := by
  refine fun E G gs a w hi => ?_
  have h1 := ev_rel hi x hx
  rw [he] at h1
  obtain ⟨b, k, cur, e, fr, hv, hh, hg, hl⟩ := rp_inv h1
  exact ⟨_, fun w' hw' => by simp [execOp, ho, hv], hv ▸ h1⟩
theorem vFieldAddrR_ok {k : A → Prop} (hT : TabOK P T) {t : TypeId} {x : Operand} {i : Nat} (ho : o.op = .fieldAddr t x i) (h : vFieldAddr T t i (ev S x) k) : ∃ z, VOR P o S rs z ∧ k z := by
  unfold vFieldAddr at h
  split at h <;> try exact h.elim
  rename_i ti hi
  have hti := tiOf_ok (hT _ _ hi)
  split at h <;> try exact h.elim
  rename_i off s g hf
  split at h <;> try exact h.elim
  rename_i hs
  split at h <;> try exact h.elim
  · rename_i r j q hx
    exact ⟨_, VOR_fieldAddr_pt ho rfl hx (hti.fs _ _ hf) hs, h⟩
  · rename_i xs hx
    exact ⟨_, VOR_fieldAddr_rp ho rfl hx (hti.fs _ _ hf) hs, h⟩
theorem VOR_indexAddr_pa {t : TypeId} {x y : Operand} {r j q n s : Nat} {k : IntKind} {i : Int} (ho : o.op = .indexAddr t x y) (hx : okO x = true) (hy : okO y = true)
    (h1 : ev S x = .pt r j q) (h2 : ev S y = .sc (.int k i)) (ha : arT P t = some (n, s)) (h0 : 0 ≤ i) (hl : i < n) : VOR P o S rs (.pt r j (q + i.toNat * s)) := by
  refine fun E G gs a w hi => ?_
  have e1 := ev_rel hi x hx
  have e2 := ev_rel hi y hy
  rw [h1] at e1
  rw [h2] at e2
  obtain ⟨row, b, hr, hb, hv⟩ := pt_inv e1
  have hv2 := (sc_inv e2).1
  unfold arT at ha
  split at ha
  case h_2 => cases ha
  rename_i n' e hu
  obtain ⟨s', hs, hns⟩ := Option.map_eq_some_iff.1 ha
  obtain ⟨rfl, rfl⟩ := Prod.mk.inj hns
  refine ⟨.pointer (some ⟨b, j * row.n + (q + i.toNat * s'), none⟩), ?_, .pt hr hb rfl⟩
  intro w' hw'
  simp [execOp, ho, hv, hv2, Instr.indexAt, asIntOf, run_underlying hu, Instr.sureAddr, h0, hl, run_sizeOf hs, add_none, Nat.add_assoc]
theorem vIndexAddrR_ok {k : A → Prop} (hT : TabOK P T) {t : TypeId} {x y : Operand} (ho : o.op = .indexAddr t x y) (h : vIndexAddr std T t S (ev S x) (ev S y) k) : ∃ z, VOR P o S rs z ∧ k z := by
  unfold vIndexAddr at h
  split at h <;> try exact h.elim
  · rename_i e ti k i hs hy
    obtain ⟨he, hti⟩ := szEl_ok hT hs
    split at h <;> try exact h.elim
    · rename_i r off len hx
      split at h <;> try exact h.elim
      rename_i row hr
      split at h <;> try exact h.elim
      rename_i hn
      exact ⟨_, VOR_indexAddr_vw ho rfl rfl hx hy hr he (by rw [hti.sz, hn]) h.1.h.1 h.1.h.2, h.2⟩
    · rename_i n xs hx
      split at h <;> try exact h.elim
      rename_i hn
      obtain ⟨h1, z, hz, h⟩ := h
      exact ⟨_, VOR_indexAddr_sl ho rfl rfl hx hy he (by rw [hti.sz, hn]) h1.h hz, h⟩
  · rename_i k i hs hy
    split at h <;> try exact h.elim
    rename_i ti ht
    split at h <;> try exact h.elim
    rename_i n s ha
    split at h <;> try exact h.elim
    rename_i r j q hx
    exact ⟨_, VOR_indexAddr_pa ho rfl rfl hx hy (by rw [(tiOf_ok (hT _ _ ht)).ar]; exact ha) h.1.h.1 h.1.h.2, h.2⟩
theorem vNilCheckR_ok {k : A → Prop} {x : Operand} (ho : o.op = .nilCheck x) (h : vNilCheck (ev S x) k) : ∃ z, VOR P o S rs z ∧ k z := by
  unfold vNilCheck at h
  split at h <;> try exact h.elim
  · rename_i hx; exact ⟨_, VOR_nilCheck_pt ho rfl hx, h⟩
  · rename_i hx; exact ⟨_, VOR_nilCheck_rp ho rfl hx, h⟩
def vLoadR (T : Nat → Option TI) (t : TypeId) (S : State) (rs : List Nat) (x : A) (k : A → Prop) : Prop :=
  match T t with
  | some i => (match x with
    | .rp xs => if i.ag then (if i.sz ≤ xs.length then k (.agg (xs.take i.sz)) else False) else (match xs[0]? with
      | some z => k z
      | none => False)
    | .pt r j q => if rs.contains r then (match rowAt S.rows r with
      | some row => (match row.lk with
        | true => (match row.xs[j]? with
          | some y => vCell i row.n y q k
          | none => False)
        | false => ∃ y, row.xs[j]? = some y ∧ vCell i row.n y q k)
      | none => False) else False
    | _ => False)
  | none => False
theorem vLoadR_ok {k : A → Prop} (hT : TabOK P T) {t : TypeId} {x : Operand} (ho : o.op = .load t x) (h : vLoadR T t S rs (ev S x) k) : ∃ z, VOR P o S rs z ∧ k z := by
  unfold vLoadR at h
  split at h <;> try exact h.elim
  rename_i i hi
  have hti := tiOf_ok (hT _ _ hi)
  split at h <;> try exact h.elim
  · rename_i xs hx
    split at h
    · rename_i hag
      split at h <;> try exact h.elim
      rename_i hle
      exact ⟨_, (VOG_load_rpAgg ho rfl hx (by rw [hti.ag, hag]) hti.sz hle).r, h⟩
    · rename_i hag
      split at h <;> try exact h.elim
      rename_i z hz
      exact ⟨_, (VOG_load_rp ho rfl hx (by rw [hti.ag]; simpa using hag) hz).r, h⟩
  · rename_i r j q hx
    split at h <;> try exact h.elim
    rename_i hrs
    have hrs : r ∈ rs := by simpa using hrs
    split at h <;> try exact h.elim
    rename_i row hr
    have cell : ∀ y, row.xs[j]? = some y → vCell i row.n y q k → ∃ z, VOR P o S rs z ∧ k z := fun y hy h => by
      unfold vCell at h
      split at h
      · rename_i hag
        split at h <;> try exact h.elim
        rename_i hq
        split at h <;> try exact h.elim
        rename_i hno
        exact ⟨_, VOR_load_ptAgg ho rfl hx hr hrs hy (by rw [hti.ag, hag]) hti.sz hq hno, h⟩
      · rename_i hag
        split at h <;> try exact h.elim
        rename_i z hz
        split at h <;> try exact h.elim
        rename_i hno
        exact ⟨_, VOR_load_pt ho rfl hx hr hrs hy (by rw [hti.ag]; simpa using hag) hz hno, h⟩
    split at h
    · split at h <;> try exact h.elim
      rename_i y hy
      exact cell y hy h
    · obtain ⟨y, hy, h⟩ := h
      exact cell y hy h
/-- What an operation reads of rows rs, or of what nobody writes. -/
def vROp (Ω : Opq) (T : Nat → Option TI) (rs : List Nat) (o : Oper) (S : State) (k : A → Prop) : Prop :=
  match o.op with
  | .load t x => vLoadR T t S rs (ev S x) k
  | .fieldAddr t x i => vFieldAddr T t i (ev S x) k
  | .nilCheck x => vNilCheck (ev S x) k
  | .indexAddr t x y => vIndexAddr Ω T t S (ev S x) (ev S y) k
  | _ => vGOp Ω T o S k
theorem vROp_ok (hT : TabOK P T) {k : A → Prop} (h : vROp std T rs o S k) : ∃ z, VOR P o S rs z ∧ k z := by
  unfold vROp at h
  split at h
  · rename_i ho; exact vLoadR_ok hT ho h
  · rename_i ho; exact vFieldAddrR_ok hT ho h
  · rename_i ho; exact vNilCheckR_ok ho h
  · rename_i ho; exact vIndexAddrR_ok hT ho h
  · obtain ⟨z, h1, h2⟩ := vGOp_ok hT h
    exact ⟨z, h1.r, h2⟩
variable {ops : List Oper} {Q : Exit → Act → World → Prop} {kp : Nat → Bool} {Sc : World → Prop}
theorem put_rows (S : State) (d : Option Nat) (z : A) : (S.put d z).rows = S.rows := by
  cases d with
  | none => rfl
  | some d => simp only [State.put]; split <;> rfl
end
end Go.Fw

/- Calls that write into one box of plain data and hand back something of which a relation speaks. Plain theorems, no condition. -/
set_option linter.unusedVariables false
set_option linter.unusedSimpArgs false
namespace Go.Fw
section
variable {P : Program} {T : Nat → Option TI} {S : State} {Ω : Opq}
/-- Rows from n on are not asked for any more. -/
def cutT (n : Nat) (t : List (Nat × A)) : List (Nat × A) := t.map fun p => (p.1, if onlyR (List.range n) p.2 then p.2 else .un)
theorem lk_cutT (n : Nat) : ∀ (t : List (Nat × A)) (i : Nat), lk (cutT n t) i = if onlyR (List.range n) (lk t i) then lk t i else .un
  | [], i => by simp [cutT, lk, onlyR]
  | (k, x) :: l, i => by
    have ih := lk_cutT n l i
    simp only [cutT] at ih
    simp only [cutT, List.map_cons, lk]
    split
    · rfl
    · exact ih
def rowsOnly (n : Nat) : List (Option Row) → Bool
  | [] => true
  | none :: l => rowsOnly n l
  | some row :: l => rowOnly (List.range n) row && rowsOnly n l
theorem rowsOnly_at {n : Nat} : ∀ {l : List (Option Row)} {r : Nat} {row : Row}, rowsOnly n l = true → rowAt l r = some row → rowOnly (List.range n) row = true
  | [], r, row, _, h => by simp [rowAt] at h
  | none :: l, 0, row, _, h => by simp [rowAt] at h
  | some row' :: l, 0, row, h1, h => by
    simp [rowAt] at h
    subst h
    simp only [rowsOnly, Bool.and_eq_true] at h1
    exact h1.1
  | none :: l, r + 1, row, h1, h => rowsOnly_at (l := l) (r := r) h1 (by simpa [rowAt] using h)
  | some row' :: l, r + 1, row, h1, h => by
    simp only [rowsOnly, Bool.and_eq_true] at h1
    exact rowsOnly_at (l := l) (r := r) h1.2 (by simpa [rowAt] using h)
theorem rowAt_take {l : List (Option Row)} {n r : Nat} : rowAt (l.take n) r = if r < n then rowAt l r else none := by
  unfold rowAt
  rw [List.getElem?_take]
  split <;> rfl
theorem Sbs.cut (n : Nat) (h : rowsOnly n (S.rows.take n) = true) : Sbs S ⟨cutT n S.t, S.N, S.rows.take n⟩ := by
  intro P E a w ⟨hd, G, gs, hi⟩
  have hrat : ∀ r row, rowAt (S.rows.take n) r = some row → rowAt S.rows r = some row := fun r row hr => by
    rw [rowAt_take] at hr
    split at hr
    · exact hr
    · cases hr
  have hle : ∀ r ∈ List.range n, RowLe w w S.rows (S.rows.take n) gs gs r := fun r hr => RowLe.refl_of fun row hrw => by
    rw [List.mem_range] at hr
    exact ⟨by rw [rowAt_take, if_pos hr]; exact hrw, rfl, fun _ _ => rfl⟩
  refine ⟨hd, G, gs, hi.keep, hi.os, hi.tape, hi.output, hi.size, hi.sz, hi.gsub, hi.gnew, hi.glt, fun r row hr => ?_, fun r row hr => hi.nod r row (hrat r row hr), fun r row hr => hi.own r row (hrat r row hr),
    fun r r' row row' hr hr' => hi.dis r r' row row' (hrat r row hr) (hrat r' row' hr'), fun i => ?_⟩
  · exact (hi.row r row (hrat r row hr)).on (fun b hb => ⟨hb, rfl⟩) hle (rowsOnly_at h hr) fun _ _ => rfl
  · show TRel w G (S.rows.take n) gs (lk (cutT n S.t) i) _ []
    rw [lk_cutT]
    split
    · rename_i ho
      exact (hi.tmp i).on (fun b hb => ⟨hb, rfl⟩) hle ho (by simp)
    · exact .un
/-! An own row of data, from now on only read. -/
mutual
def thaw (r n : Nat) (xs : List A) : A → A
  | .vw r' off len => if r' = r then .sl false n ((xs.drop off).take len) else .vw r' off len
  | .pt r' j o => if r' = r then .rp ((flat xs).drop (j * n + o)) else .pt r' j o
  | .agg ys => .agg (thawL r n xs ys)
  | .tup ys => .tup (thawL r n xs ys)
  | .clo g ys => .clo g (thawL r n xs ys)
  | .un => .un
  | .sc v => .sc v
  | .nil => .nil
  | .sl o m ys => .sl o m ys
  | .rp ys => .rp ys
  | .bx ys => .bx ys
  | .mp q => if q = r then .rmp xs else .mp q
  | .rmp ys => .rmp ys
  | .al v y => .al v (thaw r n xs y)
def thawL (r n : Nat) (xs : List A) : List A → List A
  | [] => []
  | y :: ys => thaw r n xs y :: thawL r n xs ys
end
theorem thawL_eq (r n : Nat) (xs : List A) : ∀ ys : List A, thawL r n xs ys = ys.map (thaw r n xs)
  | [] => rfl
  | y :: ys => by rw [thawL, thawL_eq r n xs ys]; rfl
theorem thaw_agg (r n : Nat) (xs ys : List A) : thaw r n xs (.agg ys) = .agg (ys.map (thaw r n xs)) := by rw [thaw, thawL_eq]
theorem thaw_tup (r n : Nat) (xs ys : List A) : thaw r n xs (.tup ys) = .tup (ys.map (thaw r n xs)) := by rw [thaw, thawL_eq]
theorem thaw_clo (r n g : Nat) (xs ys : List A) : thaw r n xs (.clo g ys) = .clo g (ys.map (thaw r n xs)) := by rw [thaw, thawL_eq]
theorem Rel.thaw {w : World} {G : Nat → Prop} {x : A} {v : Value} {F : List Nat} (h : Rel w G x v F) (r n : Nat) (xs : List A) : Fw.thaw r n xs x = x := by
  refine Rel.rec (motive_1 := fun x v F _ => Fw.thaw r n xs x = x) (motive_2 := fun ys vs F _ => ys.map (Fw.thaw r n xs) = ys)
    ?_ ?_ ?_ ?_ ?_ ?_ ?_ ?_ ?_ ?_ ?_ ?_ ?_ ?_ ?_ h
  · intros; rw [Fw.thaw]
  · intros; rw [Fw.thaw]
  · intros; rw [Fw.thaw]
  · intros; rw [Fw.thaw]
  · intros; rw [Fw.thaw]
  · intros; rw [Fw.thaw]
  · intros; rw [Fw.thaw]
  · intro xs cs F hl ih; rw [thaw_agg, ih]
  · intro xs cs F hl ih; rw [thaw_tup, ih]
  · intros; rw [Fw.thaw]
  · intros; rw [Fw.thaw]
  · intro g caps cs F hl ih; rw [thaw_clo, ih]
  · intros; rw [Fw.thaw]
  · rfl
  · intro x v F xs vs Fs h hl ih ih'; rw [List.map_cons, ih, ih']
/-- What is known of a row whose blocks are G's from now on. -/
structure Thawed (w : World) (G G' : Nat → Prop) (rows rows' : List (Option Row)) (gs gs' : Gh) (r : Nat) (row : Row) (ys : List A) : Prop where
  sub : ∀ b, G b → G' b
  ro : ∀ b, (gs r).1 = some b → G' b
  ob : ∀ c, (gs r).1 = some c → RowCells w G' rows gs { row with xs := ys } c []
  mp : ∀ b, gs r = (none, [b]) → Rel w G' (.rmp ys) (.map (some b)) []
  len : ys.length = row.xs.length
  lk : row.lk = false
  at_ : rowAt rows r = some row
  other : ∀ q row', q ≠ r → rowAt rows q = some row' → rowAt rows' q = some row' ∨ ∃ row2, rowAt rows' q = some row2 ∧ row2.n = row'.n ∧ row2.xs.length = row'.xs.length
  gsq : ∀ q, q ≠ r → gs' q = gs q
theorem TRel.thaw {w : World} {G G' : Nat → Prop} {rows rows' : List (Option Row)} {gs gs' : Gh} {r : Nat} {row : Row} {ys : List A} (ht : Thawed w G G' rows rows' gs gs' r row ys) {x : A} {v : Value} {F : List Nat} (h : TRel w G rows gs x v F) :
    TRel w G' rows' gs' (Fw.thaw r row.n ys x) v F := by
  refine TRel.rec (motive_1 := fun x v F _ => TRel w G' rows' gs' (Fw.thaw r row.n ys x) v F) (motive_2 := fun xs vs F _ => TRelL w G' rows' gs' (xs.map (Fw.thaw r row.n ys)) vs F) ?_ ?_ ?_ ?_ ?_ ?_ ?_ ?_ ?_ ?_ ?_ ?_ h
  · intros; rw [Fw.thaw]; exact .un
  · intro x v F h; rw [h.thaw]; exact .of (h.move_ (fun b hb => ⟨ht.sub b hb, rfl⟩) fun _ _ => rfl)
  · intro q off len k cap c row' cur e h1 h2 h3 h4 h5 h6 h7 h8
    rw [Fw.thaw]
    split
    · rename_i hq
      subst hq
      rw [ht.at_] at h1
      obtain rfl := Option.some.inj h1
      obtain ⟨cur', e', cap', g1, g2, g3, g4, g5, g6, g7⟩ := (ht.ob _ h2).ex
      rw [h4] at g1
      obtain ⟨rfl, -, -⟩ : cur = cur' ∧ e = e' ∧ True := by simpa using g1
      unfold CellsRel at g7
      dsimp only at g3 g5 g6 g7
      rw [if_neg (by rw [ht.lk]; simp)] at g7
      have hwd : ∀ x ∈ ys, x.width = row.n := g5
      have hlen : ys.length = row.xs.length := ht.len
      have hl2 : (ys.drop off).take len = (ys.take (off + len)).drop off := by rw [List.drop_take]; congr 1; omega
      have h9 := (g7.take0 ((off + len) * row.n)).drop0 (off * row.n)
      rw [flat_take (off + len) hwd, flat_drop off (fun x hx => hwd x (List.mem_of_mem_take hx)), ← hl2] at h9
      have e9 : List.drop (off * row.n) (List.take ((off + len) * row.n) (List.take (ys.length * row.n) cur.toList)) = (cur.toList.drop (off * row.n)).take (len * row.n) := by
        have hle : (off + len) * row.n ≤ ys.length * row.n := Nat.mul_le_mul_right _ (by rw [hlen]; exact h3)
        rw [List.take_take, Nat.min_eq_left hle, List.drop_take, Nat.add_mul, Nat.add_sub_cancel_left]
      rw [e9] at h9
      have hll : len = ((ys.drop off).take len).length := by simp; omega
      refine .of (.ro h4 (ht.ro c h2) (fun x hx => hwd x (List.mem_of_mem_drop (List.mem_of_mem_take hx))) hll rfl ?_ (by omega) (by omega))
      rcases h8 with rfl | ⟨h8, _⟩
      · exact h9
      · have h0 : len = 0 := by omega
        subst h0
        simpa [flat] using RelL.nil
    · rename_i hq
      rcases ht.other q row' hq h1 with h9 | ⟨row2, h9, h10, h11⟩
      · exact .vw h9 (by rw [ht.gsq q hq]; exact h2) h3 h4 h5 h6 h7 h8
      · exact .vw h9 (by rw [ht.gsq q hq]; exact h2) (by omega) h4 (by rw [h10]; exact h5) h6 (by omega) (by rw [h10]; exact h8)
  · intro q row' h1 h2 h3
    rw [Fw.thaw]
    split
    · simpa using TRel.of Rel.nils
    · rename_i hq
      rcases ht.other q row' hq h1 with h9 | ⟨row2, h9, h10, h11⟩
      · exact .vwn h9 (by rw [ht.gsq q hq]; exact h2) h3
      · exact .vwn h9 (by rw [ht.gsq q hq]; exact h2) (List.eq_nil_of_length_eq_zero (by rw [h11, h3]; rfl))
  · intro q j o k c row' h1 h2 h3
    rw [Fw.thaw]
    split
    · rename_i hq
      subst hq
      rw [ht.at_] at h1
      obtain rfl := Option.some.inj h1
      obtain ⟨cur', e', cap', g1, g2, g3, g4, g5, g6, g7⟩ := (ht.ob _ h2).ex
      unfold CellsRel at g7
      dsimp only at g3 g5 g6 g7
      rw [if_neg (by rw [ht.lk]; simp)] at g7
      have h9 := g7.drop0 (j * row.n + o)
      have hfl := flat_length (n := row.n) (xs := ys) g5
      subst h3
      refine .of (.rp g1 (ht.ro c h2) rfl ?_)
      rw [List.length_drop, hfl, ← List.drop_take]
      exact h9
    · rename_i hq
      rcases ht.other q row' hq h1 with h9 | ⟨row2, h9, h10, h11⟩
      · exact .pt h9 (by rw [ht.gsq q hq]; exact h2) h3
      · exact .pt h9 (by rw [ht.gsq q hq]; exact h2) (by rw [h10]; exact h3)
  · intro xs cs F hl ih; rw [thaw_agg]; exact .agg ih
  · intro xs cs F hl ih; rw [thaw_tup]; exact .tup ih
  · intro g caps cs F hl ih; rw [thaw_clo]; exact .clo ih
  · intro q b row' h1 h2
    rw [Fw.thaw]
    split
    · rename_i hq
      subst hq
      exact .of (ht.mp b h2)
    · rename_i hq
      rcases ht.other q row' hq h1 with h9 | ⟨row2, h9, h10, h11⟩
      · exact .mp h9 (by rw [ht.gsq q hq]; exact h2)
      · exact .mp h9 (by rw [ht.gsq q hq]; exact h2)
  · intro x v F h ih; rw [Fw.thaw]; exact .al ih
  · exact .nil
  · intro x v F xs vs Fs h hl ih ih'; exact .cons ih ih'
def thawRow (r n : Nat) (xs : List A) (row : Row) : Row := if row.lk then { row with xs := row.xs.map (thaw r n xs) } else row
def thawT (r n : Nat) (xs : List A) (t : List (Nat × A)) : List (Nat × A) := t.map fun p => (p.1, thaw r n xs p.2)
theorem lk_thawT (r n : Nat) (xs : List A) : ∀ (t : List (Nat × A)) (i : Nat), lk (thawT r n xs t) i = thaw r n xs (lk t i)
  | [], i => by show A.un = thaw r n xs .un; rw [thaw]
  | (k, x) :: l, i => by
    have ih := lk_thawT r n xs l i
    simp only [thawT] at ih
    simp only [thawT, List.map_cons, lk]
    split
    · rfl
    · exact ih
theorem thaw_cells (r n : Nat) (xs : List A) (x : A) : (thaw r n xs x).cells = x.cells.map (thaw r n xs) := by
  have e1 : ∀ q o l, (if q = r then A.sl false n ((xs.drop o).take l) else A.vw q o l).cells = [if q = r then A.sl false n ((xs.drop o).take l) else A.vw q o l] := fun q o l => by split <;> rfl
  have e2 : ∀ q o l, (if q = r then A.rp ((flat xs).drop (o * n + l)) else A.pt q o l).cells = [if q = r then A.rp ((flat xs).drop (o * n + l)) else A.pt q o l] := fun q o l => by split <;> rfl
  cases x with
  | vw q o l => simp only [A.cells, List.map_cons, List.map_nil, thaw, e1]; exact e1 q o l
  | pt q o l => simp only [A.cells, List.map_cons, List.map_nil, thaw, e2]; exact e2 q o l
  | mp q => by_cases hq : q = r <;> simp [A.cells, thaw, hq]
  | _ => simp only [thaw, thawL_eq, A.cells, List.map_cons, List.map_nil]
theorem thaw_width (r n : Nat) (xs : List A) (x : A) : (thaw r n xs x).width = x.width := by simp [A.width, thaw_cells]
theorem thaw_flat (r n : Nat) (xs ys : List A) : flat (ys.map (thaw r n xs)) = (flat ys).map (thaw r n xs) := by
  induction ys with
  | nil => rfl
  | cons x ys ih => simp only [flat, List.map_cons, List.flatMap_cons, List.map_append] at *; rw [ih, thaw_cells]
def State.thaw (S : State) (r n : Nat) (ys : List A) : State := ⟨thawT r n ys S.t, S.N, (S.rows.map (Option.map (thawRow r n ys))).set r none⟩
/-- An own row of data is only read from now on: what led into it tells what it holds. -/
theorem Sbs.thawY {r : Nat} {row : Row} {ys : List A} (hr : rowAt S.rows r = some row) (hlk : row.lk = false) (hyl : ys.length = row.xs.length)
    (hys : (∀ x ∈ row.xs, x.width = row.n) → (∀ x ∈ ys, x.width = row.n))
    (hre : ∀ (w : World) (G G' : Nat → Prop) (vs : List Value) (F : List Nat), RelL w G (flat row.xs) vs F → (∀ b, G b → G' b) → (∀ b ∈ F, G' b) → RelL w G' (flat ys) vs []) : Sbs S (S.thaw r row.n ys) := by
  intro P E ac w ⟨hd, G, gs, hi⟩
  have hal := rowAt_lt hr
  have hrat : ∀ q, rowAt (S.thaw r row.n ys).rows q = if q = r then none else (rowAt S.rows q).map (thawRow r row.n ys) := fun q => by
    show rowAt ((S.rows.map (Option.map (thawRow r row.n ys))).set r none) q = _
    rw [rowAt_set _ _ _ _ (by simpa using hal)]
    split
    · rfl
    · simp only [rowAt, List.getElem?_map]
      cases h : S.rows[q]? with
      | none => rfl
      | some o => cases o <;> rfl
  have hGsub : ∀ b, G b → G b ∨ b ∈ gs.all r := fun b h => .inl h
  have hob : ∀ c, (gs r).1 = some c → RowCells w (fun b => G b ∨ b ∈ gs.all r) S.rows gs { row with xs := ys } c [] := fun c hc => by
    have h := hi.row r row hr
    have hin2 : ∀ b ∈ (gs r).2, b ∈ gs.all r := fun b hb => by simp [Gh.all, hb]
    rw [hc] at h
    generalize (gs r).2 = F at h hin2
    obtain ⟨b, rfl⟩ : ∃ b, b = c := ⟨_, rfl⟩
    · skip
      obtain ⟨cur, e, cap, h1, h2, h3, h4, h5, h6, h7⟩ := RowCells.ex h
      refine ⟨cur, e, cap, h1, h2, by dsimp only; rw [hyl]; exact h3, h4, hys h5, by dsimp only; rw [hyl]; exact h6, ?_⟩
      · unfold CellsRel at h7 ⊢
        dsimp only
        rw [if_neg (by rw [hlk]; simp)] at h7 ⊢
        rw [hyl]
        exact hre w G (fun b => G b ∨ b ∈ gs.all r) _ _ h7 hGsub (fun b hb => .inr (hin2 b hb))
  have hmp : ∀ b, gs r = (none, [b]) → Rel w (fun b => G b ∨ b ∈ gs.all r) (.rmp ys) (.map (some b)) [] := fun b hb => by
    have h := hi.row r row hr
    rw [hb] at h
    rcases h with ⟨_, h⟩ | h
    · cases h
    · obtain ⟨b', clock, ents, e1, h1, h2, h3, h4, h5⟩ := h.ex
      obtain rfl : b = b' := by simpa using e1
      refine .rmp h1 (.inr (by simp [Gh.all, hb])) (fun x hx => ?_) (hre w G (fun b => G b ∨ b ∈ gs.all r) _ _ h5 hGsub (by simp))
      have := hys (fun x hx => by rw [h4 x hx, h3]) x hx
      rw [this, h3]
  have ht : Thawed w G (fun b => G b ∨ b ∈ gs.all r) S.rows (S.thaw r row.n ys).rows gs (gs.add r none []) r row ys := by
    refine ⟨hGsub, fun b hb => .inr (by simp [Gh.all, hb]), hob, hmp, hyl, hlk, hr, fun q row' hq hq2 => ?_, fun q hq => by simp [Gh.add, hq]⟩
    rw [hrat, if_neg hq, hq2]
    refine .inr ⟨_, rfl, ?_, ?_⟩ <;> unfold thawRow <;> split <;> simp
  have hgs : ∀ q, q ≠ r → (gs.add r none []) q = gs q := fun q hq => by simp [Gh.add, hq]
  have hall : ∀ q, q ≠ r → (gs.add r none []).all q = gs.all q := fun q hq => by simp only [Gh.all, hgs q hq]
  have hcase : ∀ q row', rowAt (S.thaw r row.n ys).rows q = some row' → q ≠ r ∧ ∃ row0, rowAt S.rows q = some row0 ∧ row' = thawRow r row.n ys row0 := fun q row' h => by
    rw [hrat] at h
    split at h
    · cases h
    · rename_i hq
      obtain ⟨row0, q1, q2⟩ := Option.map_eq_some_iff.1 h
      exact ⟨hq, row0, q1, q2.symm⟩
  refine ⟨hd, fun b => G b ∨ b ∈ gs.all r, gs.add r none [], hi.keep, hi.os, hi.tape, hi.output, hi.size, hi.sz, fun b hb => .inl (hi.gsub b hb), fun b hb => ?_, hi.glt.move (fun b h => .inl h) (fun _ _ => rfl) (fun b hb => ?_), fun q row' hq => ?_, fun q row' hq => ?_, fun q row' hq b hb => ?_, fun q q' row' row'' hq hq' hne => ?_, fun i => ?_⟩
  · rcases hb with hb | hb
    · exact hi.gnew b hb
    · exact .inr (hi.own r row hr b hb).2
  · rcases hb with hb | hb
    · exact hi.glt b hb
    · exact hi.block_lt hr b hb
  · obtain ⟨hqr, row0, h0, rfl⟩ := hcase q row' hq
    have hrow := hi.row q row0 h0
    rw [hgs q hqr]
    generalize (gs q).1 = ob at hrow
    cases ob with
    | none =>
      rcases hrow with ⟨q1, q2⟩ | hm
      · refine .inl ⟨?_, q2⟩
        unfold thawRow
        split <;> simp [q1]
      · refine .inr ?_
        have e : thawRow r row.n ys row0 = row0 := by obtain ⟨_, _, _, _, _, h1, _⟩ := hm.ex; unfold thawRow; rw [if_neg (by simp [h1])]
        rw [e]
        exact hm.step (fun b hb => ⟨.inl hb, rfl⟩) fun _ _ => rfl
    | some c =>
      obtain ⟨cur, ee, cap, h1, h2, h3, h4, h5, h6, h7⟩ := RowCells.ex hrow
      unfold CellsRel at h7
      by_cases hl : row0.lk = true
      · have e1 : thawRow r row.n ys row0 = { row0 with xs := row0.xs.map (Fw.thaw r row.n ys) } := by unfold thawRow; rw [if_pos hl]
        rw [e1]
        refine ⟨cur, ee, cap, h1, h2, by simpa using h3, h4, ?_, by simpa using h6, ?_⟩
        · intro x hx
          obtain ⟨y, hy, rfl⟩ := List.mem_map.1 hx
          rw [thaw_width]; exact h5 y hy
        · unfold CellsRel
          rw [if_pos hl] at h7
          show if row0.lk = true then _ else _
          rw [if_pos hl, thaw_flat]
          have : ∀ {xs : List A} {vs : List Value} {F : List Nat}, TRelL w G S.rows gs xs vs F → TRelL w (fun b => G b ∨ b ∈ gs.all r) (S.thaw r row.n ys).rows (gs.add r none []) (xs.map (Fw.thaw r row.n ys)) vs F := by
            intro xs vs F h
            induction xs generalizing vs F with
            | nil => cases h; exact .nil
            | cons x xs ih => cases h with | cons h hl => exact .cons (h.thaw ht) (ih hl)
          simpa using this h7
      · have e1 : thawRow r row.n ys row0 = row0 := by unfold thawRow; rw [if_neg hl]
        rw [e1]
        refine ⟨cur, ee, cap, h1, h2, h3, h4, h5, h6, ?_⟩
        unfold CellsRel
        rw [if_neg hl] at h7 ⊢
        exact h7.move_ (fun b hb => ⟨.inl hb, rfl⟩) fun _ _ => rfl
  · obtain ⟨hqr, row0, h0, rfl⟩ := hcase q row' hq
    rw [hall q hqr]; exact hi.nod q row0 h0
  · obtain ⟨hqr, row0, h0, rfl⟩ := hcase q row' hq
    rw [hall q hqr] at hb
    obtain ⟨q1, q2⟩ := hi.own q row0 h0 b hb
    exact ⟨fun h => h.elim q1 fun h => hi.dis q r row0 row h0 hr hqr b hb h, q2⟩
  · obtain ⟨hqr, row0, h0, rfl⟩ := hcase q row' hq
    obtain ⟨hqr', row1, h1, rfl⟩ := hcase q' row'' hq'
    rw [hall q hqr, hall q' hqr']
    exact hi.dis q q' row0 row1 h0 h1 hne
  · show TRel w _ (S.thaw r row.n ys).rows _ (lk (thawT r row.n ys S.t) i) _ []
    rw [lk_thawT]
    exact (hi.tmp i).thaw ht
/-- The same where nothing is held alone. -/
theorem Sbs.thaw0 {r : Nat} {row : Row} (hr : rowAt S.rows r = some row) (hlk : row.lk = false) (hno : (flat row.xs).all noOwn = true) : Sbs S (S.thaw r row.n row.xs) :=
  Sbs.thawY hr hlk rfl (fun h => h) fun w G G' vs F h h1 h2 => by
    obtain rfl := h.noOwn hno
    exact RelL.move_ (fun b hb => ⟨h1 b hb, rfl⟩) h (fun _ _ => rfl)
/- Row a is told as row b from now on. -/
mutual
def ren (a b : Nat) : A → A
  | .vw r off len => if r = a then .vw b off len else .vw r off len
  | .pt r j o => if r = a then .pt b j o else .pt r j o
  | .agg xs => .agg (renL a b xs)
  | .tup xs => .tup (renL a b xs)
  | .clo g xs => .clo g (renL a b xs)
  | .un => .un
  | .sc v => .sc v
  | .nil => .nil
  | .sl o n xs => .sl o n xs
  | .rp xs => .rp xs
  | .bx xs => .bx xs
  | .mp r => if r = a then .mp b else .mp r
  | .rmp xs => .rmp xs
  | .al v x => .al v (ren a b x)
def renL (a b : Nat) : List A → List A
  | [] => []
  | x :: xs => ren a b x :: renL a b xs
end
theorem renL_eq (a b : Nat) : ∀ xs : List A, renL a b xs = xs.map (ren a b)
  | [] => rfl
  | x :: xs => by rw [renL, renL_eq a b xs]; rfl
theorem ren_agg (a b : Nat) (xs : List A) : ren a b (.agg xs) = .agg (xs.map (ren a b)) := by rw [ren, renL_eq]
theorem ren_tup (a b : Nat) (xs : List A) : ren a b (.tup xs) = .tup (xs.map (ren a b)) := by rw [ren, renL_eq]
theorem ren_clo (a b g : Nat) (xs : List A) : ren a b (.clo g xs) = .clo g (xs.map (ren a b)) := by rw [ren, renL_eq]
theorem Rel.ren {w : World} {G : Nat → Prop} {x : A} {v : Value} {F : List Nat} (h : Rel w G x v F) (a b : Nat) : Fw.ren a b x = x := by
  refine Rel.rec (motive_1 := fun x v F _ => Fw.ren a b x = x) (motive_2 := fun xs vs F _ => xs.map (Fw.ren a b) = xs)
    ?_ ?_ ?_ ?_ ?_ ?_ ?_ ?_ ?_ ?_ ?_ ?_ ?_ ?_ ?_ h
  · intros; rw [Fw.ren]
  · intros; rw [Fw.ren]
  · intros; rw [Fw.ren]
  · intros; rw [Fw.ren]
  · intros; rw [Fw.ren]
  · intros; rw [Fw.ren]
  · intros; rw [Fw.ren]
  · intro xs cs F hl ih; rw [ren_agg, ih]
  · intro xs cs F hl ih; rw [ren_tup, ih]
  · intros; rw [Fw.ren]
  · intros; rw [Fw.ren]
  · intro g caps cs F hl ih; rw [ren_clo, ih]
  · intros; rw [Fw.ren]
  · rfl
  · intro x v F xs vs Fs h hl ih ih'; rw [List.map_cons, ih, ih']
theorem TRel.ren {w : World} {G : Nat → Prop} {rows rows' : List (Option Row)} {gs gs' : Gh} {a b : Nat} (hr : ∀ r row, rowAt rows r = some row → ∃ row', rowAt rows' (if r = a then b else r) = some row' ∧ gs' (if r = a then b else r) = gs r ∧ row'.n = row.n ∧ row'.xs.length = row.xs.length)
    {x : A} {v : Value} {F : List Nat} (h : TRel w G rows gs x v F) : TRel w G rows' gs' (Fw.ren a b x) v F := by
  refine TRel.rec (motive_1 := fun x v F _ => TRel w G rows' gs' (Fw.ren a b x) v F) (motive_2 := fun xs vs F _ => TRelL w G rows' gs' (xs.map (Fw.ren a b)) vs F) ?_ ?_ ?_ ?_ ?_ ?_ ?_ ?_ ?_ ?_ ?_ ?_ h
  · intros; rw [Fw.ren]; exact .un
  · intro x v F h; rw [h.ren]; exact .of h
  · intro r off len k cap c row cur e h1 h2 h3 h4 h5 h6 h7 h8
    obtain ⟨row', q1, q2, q3, q4⟩ := hr r row h1
    have : Fw.ren a b (.vw r off len) = .vw (if r = a then b else r) off len := by rw [Fw.ren]; split <;> rfl
    rw [this]
    exact .vw q1 (by rw [q2]; exact h2) (by omega) h4 (by rw [h5, q3]) h6 (by omega) (by rw [q3]; exact h8)
  · intro r row h1 h2 h3
    obtain ⟨row', q1, q2, q3, q4⟩ := hr r row h1
    have : Fw.ren a b (.vw r 0 0) = .vw (if r = a then b else r) 0 0 := by rw [Fw.ren]; split <;> rfl
    rw [this]
    exact .vwn q1 (by rw [q2]; exact h2) (by rw [h3] at q4; exact List.eq_nil_of_length_eq_zero q4)
  · intro r j o k c row h1 h2 h3
    obtain ⟨row', q1, q2, q3, q4⟩ := hr r row h1
    have : Fw.ren a b (.pt r j o) = .pt (if r = a then b else r) j o := by rw [Fw.ren]; split <;> rfl
    rw [this]
    exact .pt q1 (by rw [q2]; exact h2) (by rw [q3]; exact h3)
  · intro xs cs F hl ih; rw [ren_agg]; exact .agg ih
  · intro xs cs F hl ih; rw [ren_tup]; exact .tup ih
  · intro g caps cs F hl ih; rw [ren_clo]; exact .clo ih
  · intro r c row h1 h2
    obtain ⟨row', q1, q2, q3, q4⟩ := hr r row h1
    have : Fw.ren a b (.mp r) = .mp (if r = a then b else r) := by rw [Fw.ren]; split <;> rfl
    rw [this]
    exact .mp q1 (by rw [q2]; exact h2)
  · intro x v F h ih; rw [Fw.ren]; exact .al ih
  · exact .nil
  · intro x v F xs vs Fs h hl ih ih'; exact .cons ih ih'
theorem TRelL.ren {w : World} {G : Nat → Prop} {rows rows' : List (Option Row)} {gs gs' : Gh} {a b : Nat} (hr : ∀ r row, rowAt rows r = some row → ∃ row', rowAt rows' (if r = a then b else r) = some row' ∧ gs' (if r = a then b else r) = gs r ∧ row'.n = row.n ∧ row'.xs.length = row.xs.length) :
    ∀ {xs : List A} {vs : List Value} {F : List Nat}, TRelL w G rows gs xs vs F → TRelL w G rows' gs' (xs.map (Fw.ren a b)) vs F
  | _, _, _, .nil => .nil
  | _, _, _, .cons h hl => .cons (h.ren hr) (hl.ren hr)
def renRow (a b : Nat) (row : Row) : Row := if row.lk then { row with xs := row.xs.map (ren a b) } else row
def renRows (a b : Nat) (rows : List (Option Row)) : List (Option Row) := rows.map (Option.map (renRow a b))
def renT (a b : Nat) (t : List (Nat × A)) : List (Nat × A) := t.map fun p => (p.1, ren a b p.2)
theorem lk_renT (a b : Nat) : ∀ (t : List (Nat × A)) (i : Nat), lk (renT a b t) i = ren a b (lk t i)
  | [], i => by show A.un = ren a b .un; rw [ren]
  | (k, x) :: l, i => by
    have ih := lk_renT a b l i
    simp only [renT] at ih
    simp only [renT, List.map_cons, lk]
    split
    · rfl
    · exact ih
theorem rowAt_renRows (a b : Nat) (rows : List (Option Row)) (i : Nat) : rowAt (renRows a b rows) i = (rowAt rows i).map (renRow a b) := by
  simp only [rowAt, renRows, List.getElem?_map]
  cases h : rows[i]? with
  | none => rfl
  | some o => cases o <;> rfl
theorem renRow_n (a b : Nat) (row : Row) : (renRow a b row).n = row.n := by unfold renRow; split <;> rfl
theorem renRow_len (a b : Nat) (row : Row) : (renRow a b row).xs.length = row.xs.length := by unfold renRow; split <;> simp
theorem ren_cells (a b : Nat) (x : A) : (ren a b x).cells = x.cells.map (ren a b) := by
  have e1 : ∀ r o l, ren a b (.vw r o l) = .vw (if r = a then b else r) o l := fun r o l => by rw [ren]; split <;> rfl
  have e2 : ∀ r o l, ren a b (.pt r o l) = .pt (if r = a then b else r) o l := fun r o l => by rw [ren]; split <;> rfl
  cases x with
  | vw r o l => simp only [A.cells, List.map_cons, List.map_nil, e1]
  | pt r o l => simp only [A.cells, List.map_cons, List.map_nil, e2]
  | mp r => by_cases hq : r = a <;> simp [A.cells, ren, hq]
  | _ => simp only [ren, renL_eq, A.cells, List.map_cons, List.map_nil]
theorem ren_width (a b : Nat) (x : A) : (ren a b x).width = x.width := by simp [A.width, ren_cells]
theorem ren_flat (a b : Nat) (xs : List A) : flat (xs.map (ren a b)) = (flat xs).map (ren a b) := by
  induction xs with
  | nil => rfl
  | cons x xs ih => simp only [flat, List.map_cons, List.flatMap_cons, List.map_append] at *; rw [ih, ren_cells]
/-- Row a becomes row b, where none stood. -/
def State.mv (S : State) (a b : Nat) : State := ⟨renT a b S.t, S.N, ((renRows a b S.rows).set b (((rowAt S.rows a).map (renRow a b)))).set a none⟩
theorem Sbs.mv {a b : Nat} {row : Row} (ha : rowAt S.rows a = some row) (hb : rowAt S.rows b = none) (hlt : b < S.rows.length) : Sbs S (S.mv a b) := by
  intro P E ac w ⟨hd, G, gs, hi⟩
  have hab : a ≠ b := fun e => by rw [e, hb] at ha; cases ha
  have hal := rowAt_lt ha
  have hlen : (renRows a b S.rows).length = S.rows.length := by simp [renRows]
  have hrat : ∀ r, rowAt (S.mv a b).rows r = if r = a then none else if r = b then (rowAt S.rows a).map (renRow a b) else (rowAt S.rows r).map (renRow a b) := fun r => by
    show rowAt (((renRows a b S.rows).set b _).set a none) r = _
    rw [rowAt_set _ _ _ _ (by rw [List.length_set, hlen]; exact hal)]
    split
    · rfl
    · rw [rowAt_set _ _ _ _ (by rw [hlen]; exact hlt)]
      split
      · rfl
      · rw [rowAt_renRows]
  have hcase : ∀ r row', rowAt (S.mv a b).rows r = some row' → ∃ r0 row0, rowAt S.rows r0 = some row0 ∧ row' = renRow a b row0 ∧ r = (if r0 = a then b else r0) ∧ r0 ≠ b ∧ r ≠ a := fun r row' h => by
    rw [hrat] at h
    split at h
    · cases h
    · rename_i h1
      split at h
      · rename_i h2
        rw [ha] at h
        exact ⟨a, row, ha, (Option.some.inj h).symm, by rw [if_pos rfl]; exact h2, hab, h1⟩
      · rename_i h2
        obtain ⟨row0, q1, q2⟩ := Option.map_eq_some_iff.1 h
        exact ⟨r, row0, q1, q2.symm, by rw [if_neg h1], h2, h1⟩
  have hgs : ∀ r0, r0 ≠ b → (fun r => if r = b then gs a else gs r) (if r0 = a then b else r0) = gs r0 := fun r0 h0 => by
    dsimp only
    by_cases h : r0 = a
    · subst h; simp
    · rw [if_neg h, if_neg h0]
  have hren : ∀ r row0, rowAt S.rows r = some row0 → ∃ row', rowAt (S.mv a b).rows (if r = a then b else r) = some row' ∧ (fun r => if r = b then gs a else gs r) (if r = a then b else r) = gs r ∧ row'.n = row0.n ∧ row'.xs.length = row0.xs.length := fun r row0 h => by
    have hrb : r ≠ b := fun e => by rw [e, hb] at h; cases h
    refine ⟨renRow a b row0, ?_, hgs r hrb, renRow_n .., renRow_len ..⟩
    rw [hrat]
    by_cases hra : r = a
    · subst hra
      rw [if_pos rfl, if_neg (fun e => hab e.symm), if_pos rfl, h]; rfl
    · rw [if_neg hra, if_neg hra, if_neg hrb, h]; rfl
  have hall : ∀ r0, r0 ≠ b → Gh.all (fun r => if r = b then gs a else gs r) (if r0 = a then b else r0) = gs.all r0 := fun r0 h0 => by
    have := hgs r0 h0
    simp only [Gh.all] at *
    rw [this]
  refine ⟨hd, G, fun r => if r = b then gs a else gs r, hi.keep, hi.os, hi.tape, hi.output, hi.size, hi.sz, hi.gsub, hi.gnew, hi.glt, fun r row' hr => ?_, fun r row' hr => ?_, fun r row' hr => ?_, fun r r' row' row'' hr hr' hne => ?_, fun i => ?_⟩
  · obtain ⟨r0, row0, h0, rfl, rfl, hb0, hra⟩ := hcase r row' hr
    have hrow := hi.row r0 row0 h0
    have e : (if (if r0 = a then b else r0) = b then gs a else gs (if r0 = a then b else r0)) = gs r0 := hgs r0 hb0
    rw [e]
    generalize (gs r0).1 = ob at hrow
    cases ob with
    | none =>
      rcases hrow with ⟨q1, q2⟩ | hm
      · refine .inl ⟨?_, q2⟩
        unfold renRow
        split <;> simp [q1]
      · refine .inr ?_
        have e : renRow a b row0 = row0 := by obtain ⟨_, _, _, _, _, h1, _⟩ := hm.ex; unfold renRow; rw [if_neg (by simp [h1])]
        rw [e]; exact hm
    | some c =>
      obtain ⟨cur, ee, cap, h1, h2, h3, h4, h5, h6, h7⟩ := hrow.ex
      unfold CellsRel at h7
      by_cases hl : row0.lk = true
      · have e1 : renRow a b row0 = { row0 with xs := row0.xs.map (ren a b) } := by unfold renRow; rw [if_pos hl]
        rw [e1]
        refine ⟨cur, ee, cap, h1, h2, by simpa using h3, h4, ?_, by simpa using h6, ?_⟩
        · intro x hx
          obtain ⟨y, hy, rfl⟩ := List.mem_map.1 hx
          rw [ren_width]; exact h5 y hy
        · unfold CellsRel
          rw [if_pos hl] at h7
          show if row0.lk = true then _ else _
          rw [if_pos hl, ren_flat]
          simpa using h7.ren hren
      · have e1 : renRow a b row0 = row0 := by unfold renRow; rw [if_neg hl]
        rw [e1]
        refine ⟨cur, ee, cap, h1, h2, h3, h4, h5, h6, ?_⟩
        unfold CellsRel
        rw [if_neg hl] at h7 ⊢
        exact h7
  · obtain ⟨r0, row0, h0, rfl, rfl, hb0, hra⟩ := hcase r row' hr
    rw [hall r0 hb0]; exact hi.nod r0 row0 h0
  · obtain ⟨r0, row0, h0, rfl, rfl, hb0, hra⟩ := hcase r row' hr
    rw [hall r0 hb0]; exact hi.own r0 row0 h0
  · obtain ⟨r0, row0, h0, rfl, rfl, hb0, hra⟩ := hcase r row' hr
    obtain ⟨r1, row1, h1, rfl, rfl, hb1, hra1⟩ := hcase r' row'' hr'
    rw [hall r0 hb0, hall r1 hb1]
    exact hi.dis r0 r1 row0 row1 h0 h1 fun e => hne (by rw [e])
  · show TRel w G (S.mv a b).rows _ (lk (renT a b S.t) i) _ []
    rw [lk_renT]
    exact (hi.tmp i).ren hren
end
end Go.Fw

/- Maps: what is made, laid in and looked up. Plain theorems, no condition. -/
set_option linter.unusedVariables false
set_option linter.unusedSimpArgs false
namespace Go.Fw
/-- What stands at a number in a map's entries. -/
def mfind (k : Int) : List A → Option A
  | [] => none
  | x :: l => match x with
    | .agg [.sc (.int _ j), z] => if k = j then some z else mfind k l
    | _ => mfind k l
/-- Entries of a map whose keys are integers of a kind. -/
def mok (kk : IntKind) : List A → Prop
  | [] => True
  | x :: l => (∃ j z, x = .agg [.sc (.int kk j), z] ∧ noOwn z = true) ∧ mok kk l
def lkA (ok : Bool) (r : Option A) (z : A) : A := match ok, r with
  | true, some x => .tup [x, .sc (.bool true)]
  | true, none => .tup [z, .sc (.bool false)]
  | false, some x => x
  | false, none => z
def lkV (ok : Bool) (r : Option (Nat × Value)) (z : Value) : Value := match ok, r with
  | true, some p => .tuple #[p.2, .bool true]
  | true, none => .tuple #[z, .bool false]
  | false, some p => p.2
  | false, none => z
section
variable {P : Program} {T : Nat → Option TI} {S : State} {E : Env P} {G : Nat → Prop} {gs : Gh} {a : Act} {w : World}

theorem findNow_ok {kk : IntKind} {k : Int} {d : TypeDesc} (hd : d = .int kk) : ∀ (xs : List A) (es : List MapEntry) (i : Nat), mok kk xs → RelL w G (flat xs) (es.flatMap fun e => [e.key, e.val]) [] →
    ∃ r, Instr.findNow d (.int kk k) es i = some r ∧ (match mfind k xs with | none => r = none | some z => ∃ j v, r = some (j, v) ∧ Rel w G z v [])
  | [], es, i, _, h => by
    have := h.length
    cases es with
    | nil => exact ⟨none, rfl, rfl⟩
    | cons e es => simp [flat] at this
  | x :: xs, es, i, hm, h => by
    obtain ⟨⟨j, z, rfl, hz⟩, hm⟩ := hm
    cases es with
    | nil => have := h.length; simp [flat, A.cells] at this
    | cons e es =>
      have e1 : flat (A.agg [.sc (.int kk j), z] :: xs) = .sc (.int kk j) :: z :: flat xs := by simp [flat, A.cells]
      rw [e1] at h
      simp only [List.flatMap_cons, List.cons_append, List.nil_append] at h
      generalize hF : ([] : List Nat) = F at h
      cases h with
      | cons h1 h2 =>
        rename_i F1 F2
        obtain ⟨rfl, rfl⟩ : F1 = [] ∧ F2 = [] := by simpa using hF.symm
        generalize hF' : ([] : List Nat) = F' at h2
        cases h2 with
        | cons h2 h3 =>
          rename_i F1 F2
          obtain ⟨rfl, rfl⟩ : F1 = [] ∧ F2 = [] := by simpa using hF'.symm
          have hk : e.key = .int kk j := by
            generalize e.key = v at h1
            cases h1; rfl
          obtain ⟨r, q1, q2⟩ := findNow_ok hd xs es (i + 1) hm h3
          subst hd
          by_cases hkj : k = j
          · subst hkj
            refine ⟨some (i, e.val), ?_, ?_⟩
            · unfold Instr.findNow
              simp [Instr.sameNow, hk]
            · simp only [mfind, if_pos]
              exact ⟨_, _, rfl, h2⟩
          · refine ⟨r, ?_, ?_⟩
            · unfold Instr.findNow
              have : (k == j) = false := by simpa using hkj
              simp only [Instr.sameNow, hk, if_pos, this]
              exact q1
            · simp only [mfind, if_neg hkj]
              exact q2

theorem run_checkKey {kt : TypeId} {kk : IntKind} (hk : P.underlying kt = some (.int kk)) (b : Bool) (k : Int) (w : World) : (Instr.checkKey b 10000 kt (.int kk k)).run P w = .ok () w := by
  have : ∀ n, (Instr.checkKey b (n + 1) kt (.int kk k)).run P w = .ok () w := fun n => by
    simp only [Instr.checkKey, Sem.run_bind, run_underlying hk w, Result.andThen_ok]
    rfl
  exact this 9999
theorem run_findKey {kt : TypeId} {kk : IntKind} (hk : P.underlying kt = some (.int kk)) {k : Int} {es : List MapEntry} {r : Option (Nat × Value)} (h : Instr.findNow (.int kk) (.int kk k) es 0 = some r) (w : World) :
    (Instr.findKey kt (.int kk k) es).run P w = .ok r w := by
  simp only [Instr.findKey, Sem.run_bind, run_underlying hk w, Result.andThen_ok, h]
  rfl
theorem run_getMap {b clock : Nat} {es : Array MapEntry} (h : w.heap[b]? = some (.map es clock)) : (getObj b).run P w = .ok (.map es clock) w := by
  simp [getObj, Sem.run, h]
theorem run_lookup {t kt et : TypeId} {kk : IntKind} {k : Int} {z0 : Value} (ht : P.underlying t = some (.map kt et)) (hk : P.underlying kt = some (.int kk)) (hz : zeroT P et = some z0) {b clock : Nat} {es : Array MapEntry}
    (hb : w.heap[b]? = some (.map es clock)) {r : Option (Nat × Value)} (hr : Instr.findNow (.int kk) (.int kk k) es.toList 0 = some r) (ok : Bool) :
    (Instr.lookup t (.map (some b)) (.int kk k) ok).run P w = .ok (lkV ok r z0) w := by
  simp only [Instr.lookup, Sem.run_bind, run_underlying ht w, Result.andThen_ok, run_getMap hb, Sem.run_pure, run_checkKey hk, run_findKey hk hr]
  cases r with
  | none =>
    simp only [Sem.run_bind, run_zero hz, Result.andThen_ok, Sem.run_pure]
    cases ok <;> rfl
  | some p => obtain ⟨i, v⟩ := p; cases ok <;> rfl
theorem map_real {tmps : Array Value} (hi : Inv E G gs S tmps w) {r : Nat} {row : Row} {v : Value} {F : List Nat} (hr : rowAt S.rows r = some row) (hv : TRel w G S.rows gs (.mp r) v F) :
    ∃ b clock ents, v = .map (some b) ∧ gs r = (none, [b]) ∧ w.heap[b]? = some (.map ents clock) ∧ row.lk = false ∧ row.n = 2 ∧ (∀ x ∈ row.xs, x.width = 2) ∧ RelL w G (flat row.xs) (entV ents) [] := by
  cases hv with
  | of h => cases h
  | mp hr' hb =>
    rw [hr] at hr'
    obtain rfl := Option.some.inj hr'
    have h := hi.row r row hr
    rw [hb] at h
    rcases h with ⟨_, h⟩ | h
    · cases h
    · obtain ⟨b', clock, ents, e1, h1, h2, h3, h4, h5⟩ := h.ex
      obtain rfl := List.head_eq_of_cons_eq e1
      exact ⟨_, clock, ents, rfl, hb, h1, h2, h3, h4, h5⟩
/-- What is looked up. -/
theorem VOK_lookup {o : Oper} {t kt et : TypeId} {x y : Operand} {ok : Bool} {kk : IntKind} {k : Int} {z0 : Value} {es : List A} (ho : o.op = .lookup t x y ok) (ht : P.underlying t = some (.map kt et)) (hk : P.underlying kt = some (.int kk))
    (hz : zeroT P et = some z0) (hzo : okV z0 = true) (hx : ev S x = .rmp es ∨ ∃ r row, ev S x = .mp r ∧ rowAt S.rows r = some row ∧ row.xs = es) (hy : ev S y = .sc (.int kk k)) (hm : mok kk es) : VOK P o S (lkA ok (mfind k es) (constA z0)) := by
  refine fun E G gs a w hi => ?_
  have e1 := ev_rel hi x rfl
  have e2 := ev_rel hi y rfl
  rw [hy] at e2
  have v2 := (sc_inv e2).1
  obtain ⟨b, clock, ents, v1, hb, hrel⟩ : ∃ b clock ents, a.eval x = .map (some b) ∧ w.heap[b]? = some (.map ents clock) ∧ RelL w G (flat es) (entV ents) [] := by
    rcases hx with hx | ⟨r, row, hx, hr, rfl⟩
    · rw [hx] at e1
      generalize a.eval x = v at e1
      cases e1 with
      | of h => cases h with | rmp hh hg hw hl => exact ⟨_, _, _, rfl, hh, hl⟩
    · rw [hx] at e1
      obtain ⟨b, clock, ents, q1, _, q2, _, _, _, q3⟩ := map_real hi hr e1
      exact ⟨b, clock, ents, q1, q2, q3⟩
  obtain ⟨r, q1, q2⟩ := findNow_ok (k := k) rfl es ents.toList 0 hm hrel
  refine ⟨lkV ok r z0, fun w' hw' => ?_, ?_⟩
  · have hb' := keep_at hw' hb
    have := run_lookup (w := w') ht hk hz hb' q1 ok
    simp [execOp, ho, v1, v2, this]
  · have hzr : TRel w G S.rows gs (constA z0) z0 [] := .of (rel_constA hzo)
    cases hf : mfind k es with
    | none =>
      rw [hf] at q2
      obtain rfl := q2
      cases ok with
      | true => exact .tup (cs := [z0, .bool false]) (.cons (F := []) hzr (.cons (F := []) (.of (.sc rfl)) .nil))
      | false => exact hzr
    | some z =>
      rw [hf] at q2
      obtain ⟨j, v, rfl, hv⟩ := q2
      cases ok with
      | true => exact .tup (cs := [v, .bool true]) (.cons (F := []) (.of hv) (.cons (F := []) (.of (.sc rfl)) .nil))
      | false => exact .of hv

theorem opOK_makeMap {o : Oper} {K : State → Prop} {t : TypeId} (ho : o.op = .makeMap t none) (hK : K ((S.addRow ⟨2, [], false⟩).put o.dst (.mp S.rows.length))) : opOK P o S K := by
  intro E a w next Q hs hn
  obtain ⟨hd, G, gs, hi⟩ := hs
  have hr : (execOp a.eval o).run P w = .ok (.value (.map (some w.heap.size))) (w.alloc (.map #[] 0)) := by
    simp [execOp, ho, Instr.makeMap]
  have hi' : Inv E G (gs.add S.rows.length none [w.heap.size]) (S.addRow ⟨2, [], false⟩) a.tmps (w.alloc (.map #[] 0)) := by
    refine hi.adopt rfl rfl rfl (by simp) (fun b hb => heap_alloc_lt w _ hb) (fun _ h => h) (fun _ h => .inl h) (fun b hb => by have := hi.glt b hb; simp; omega) (by simp) ?_ ?_ ?_
    · intro b hb
      have hb : b = w.heap.size := by simpa using hb
      subst hb
      exact ⟨fun h => by have := hi.glt _ h; omega, .inr hi.size⟩
    · intro r row' hr b hb hb'
      have hb' : b = w.heap.size := by simpa using hb'
      subst hb'
      have := hi.block_lt hr _ hb
      omega
    · intro rows' gs' _
      exact .inr ⟨w.heap.size, 0, #[], rfl, heap_alloc_self w _, rfl, rfl, by simp, by simpa [flat, entV] using RelL.nil⟩
  unfold Oper.wp
  rw [hr]
  refine hn _ _ _ hK ⟨by rw [put_defers]; exact hd, G, _, Inv.put (S := S.addRow _) hi' ?_ o.dst⟩
  refine .mp (row := ⟨2, [], false⟩) ?_ (by simp [Gh.add])
  show rowAt (S.rows ++ [some _]) S.rows.length = _
  rw [rowAt_push, if_pos rfl]

/-- What is told stands, where one map is turned. -/
theorem TRel.stepM {w w' : World} {G : Nat → Prop} {rows rows' : List (Option Row)} {gs : Gh} {r b0 : Nat} (hg : gs r = (none, [b0])) (hG : ∀ c, G c → w'.heap[c]? = w.heap[c]?)
    (hq : ∀ q row, q ≠ r → rowAt rows q = some row → rowAt rows' q = some row ∧ ∀ c, (gs q).1 = some c → w'.heap[c]? = w.heap[c]?) (hr : ∃ row', rowAt rows' r = some row') {x : A} {v : Value} {F : List Nat}
    (h : TRel w G rows gs x v F) (hF : ∀ c ∈ F, w'.heap[c]? = w.heap[c]?) : TRel w' G rows' gs x v F := by
  refine TRel.rec (motive_1 := fun x v F _ => (∀ b ∈ F, w'.heap[b]? = w.heap[b]?) → TRel w' G rows' gs x v F)
    (motive_2 := fun xs vs F _ => (∀ b ∈ F, w'.heap[b]? = w.heap[b]?) → TRelL w' G rows' gs xs vs F) ?_ ?_ ?_ ?_ ?_ ?_ ?_ ?_ ?_ ?_ ?_ ?_ h hF
  · intros; exact .un
  · intro x v F h hF; exact .of (h.move_ (fun b hb => ⟨hb, hG b hb⟩) hF)
  · intro q off len k cap b row cur e hr hob hl hh hs hm hc hk _
    have hne : q ≠ r := fun e => by rw [e, hg] at hob; cases hob
    obtain ⟨h1, h2⟩ := hq q row hne hr
    exact .vw h1 hob hl (by rw [h2 b hob]; exact hh) hs hm hc hk
  · intro q row hr hob hxs _
    have hne : q ≠ r := fun e => by rw [e, hg] at hob; cases hob
    exact .vwn (hq q row hne hr).1 hob hxs
  · intro q j o k b row hr hob hk _
    have hne : q ≠ r := fun e => by rw [e, hg] at hob; cases hob
    exact .pt (hq q row hne hr).1 hob hk
  · intro xs cs F hl ih hF; exact .agg (ih hF)
  · intro xs cs F hl ih hF; exact .tup (ih hF)
  · intro g caps cs F hl ih hF; exact .clo (ih hF)
  · intro q b row hr' hob _
    by_cases hne : q = r
    · subst hne
      obtain ⟨row', hr⟩ := hr
      exact .mp hr hob
    · exact .mp (hq q row hne hr').1 hob
  · intro x v F h ih hF; exact .al (ih hF)
  · intros; exact .nil
  · intro x v F xs vs Fs h hl ih ih' hF
    exact .cons (ih fun b hb => hF b (by simp [hb])) (ih' fun b hb => hF b (by simp [hb]))
theorem TRelL.stepM {w w' : World} {G : Nat → Prop} {rows rows' : List (Option Row)} {gs : Gh} {r b0 : Nat} (hg : gs r = (none, [b0])) (hG : ∀ c, G c → w'.heap[c]? = w.heap[c]?)
    (hq : ∀ q row, q ≠ r → rowAt rows q = some row → rowAt rows' q = some row ∧ ∀ c, (gs q).1 = some c → w'.heap[c]? = w.heap[c]?) (hr : ∃ row', rowAt rows' r = some row') :
    ∀ {xs : List A} {vs : List Value} {F : List Nat}, TRelL w G rows gs xs vs F → (∀ c ∈ F, w'.heap[c]? = w.heap[c]?) → TRelL w' G rows' gs xs vs F
  | _, _, _, .nil, _ => .nil
  | _, _, _, .cons h hl, hF => .cons (h.stepM hg hG hq hr fun b hb => hF b (by simp [hb])) (hl.stepM hg hG hq hr fun b hb => hF b (by simp [hb]))
/-- A map's block is turned. -/
theorem Inv.setMap {tmps : Array Value} (hi : Inv E G gs S tmps w) {r b clock clock' : Nat} {row row' : Row} {ents ents' : Array MapEntry} (hr : rowAt S.rows r = some row) (hg : gs r = (none, [b])) (hh : w.heap[b]? = some (.map ents clock))
    (hlk : row'.lk = false) (hn : row'.n = 2) (hw : ∀ x ∈ row'.xs, x.width = 2) (hl : RelL w G (flat row'.xs) (entV ents') []) :
    Inv E G gs (S.setRow r row') tmps { w with heap := w.heap.setIfInBounds b (.map ents' clock') } := by
  have hbl : b < w.heap.size := (Array.getElem?_eq_some_iff.1 hh).1
  have hball : b ∈ gs.all r := by simp [Gh.all, hg]
  obtain ⟨w', hw'⟩ : ∃ w' : World, w' = { w with heap := w.heap.setIfInBounds b (.map ents' clock') } := ⟨_, rfl⟩
  have hold : ∀ k, k ≠ b → w'.heap[k]? = w.heap[k]? := fun k hk => by rw [hw']; simp [Array.getElem?_setIfInBounds, Ne.symm hk]
  have hnew : w'.heap[b]? = some (.map ents' clock') := by rw [hw']; simp [Array.getElem?_setIfInBounds, hbl]
  have hsz : w'.heap.size = w.heap.size := by rw [hw']; simp
  have hG : ∀ c, G c → w'.heap[c]? = w.heap[c]? := fun c hc => hold c fun h => by subst h; exact (hi.own r row hr c hball).1 hc
  have hblk : ∀ q row0, q ≠ r → rowAt S.rows q = some row0 → ∀ c ∈ gs.all q, w'.heap[c]? = w.heap[c]? := fun q row0 hne h0 c hc => hold c fun h => by
    subst h; exact hi.dis q r row0 row h0 hr hne c hc hball
  have hrat : ∀ q, rowAt (S.setRow r row').rows q = if q = r then some row' else rowAt S.rows q := fun q => rowAt_setRow hr
  have hq : ∀ q row0, q ≠ r → rowAt S.rows q = some row0 → rowAt (S.setRow r row').rows q = some row0 ∧ ∀ c, (gs q).1 = some c → w'.heap[c]? = w.heap[c]? := fun q row0 hne h0 =>
    ⟨by rw [hrat, if_neg hne]; exact h0, fun c hc => hblk q row0 hne h0 c (by simp [Gh.all, hc])⟩
  have hself : ∃ row2, rowAt (S.setRow r row').rows r = some row2 := ⟨row', by rw [hrat, if_pos rfl]⟩
  have hcase : ∀ q row2, rowAt (S.setRow r row').rows q = some row2 → (q = r ∧ row2 = row') ∨ (q ≠ r ∧ rowAt S.rows q = some row2) := fun q row2 h => by
    rw [hrat] at h
    split at h
    · rename_i e; exact .inl ⟨e, (Option.some.inj h).symm⟩
    · rename_i e; exact .inr ⟨e, h⟩
  have hex : ∀ q row2, rowAt (S.setRow r row').rows q = some row2 → ∃ row0, rowAt S.rows q = some row0 := fun q row2 h => by
    rcases hcase q row2 h with ⟨rfl, _⟩ | ⟨_, h0⟩
    · exact ⟨_, hr⟩
    · exact ⟨_, h0⟩
  rw [← hw']
  refine ⟨fun c hc hf => ?_, by rw [hw']; exact hi.os, by rw [hw']; exact hi.tape, by rw [hw']; exact hi.output, by rw [hsz]; exact hi.size, hi.sz, hi.gsub, hi.gnew, hi.glt.move (fun b h => h) hG (fun c hc => by rw [hsz]; exact hi.glt c hc), fun q row2 hq2 => ?_, fun q row2 hq2 => ?_, fun q row2 hq2 => ?_, fun q1 q2 row1 row2 h1 h2 hne => ?_, fun i => (hi.tmp i).stepM hg hG hq hself (by simp)⟩
  · rw [hold c fun h => ?_]
    · exact hi.keep c hc hf
    · subst h
      rcases (hi.own r row hr c hball).2 with h | h
      · exact hf h
      · omega
  · rcases hcase q row2 hq2 with ⟨rfl, rfl⟩ | ⟨hne, h0⟩
    · rw [hg]
      exact .inr ⟨b, clock', ents', rfl, hnew, hlk, hn, hw, RelL.move_ (fun c hc => ⟨hc, hG c hc⟩) hl (by simp)⟩
    · have hrow := hi.row q row2 h0
      have hbk := hblk q row2 hne h0
      unfold Gh.all at hbk
      generalize (gs q).1 = ob at hrow hbk
      cases ob with
      | none => exact hrow.imp id fun hm => hm.step (fun c hc => ⟨hc, hG c hc⟩) fun c hc => hbk c (by simp [hc])
      | some c =>
        obtain ⟨cur, e, cap, h1, h2, h3, h4, h5, h6, h7⟩ := RowCells.ex hrow
        refine ⟨cur, e, cap, by rw [hbk c (by simp)]; exact h1, h2, h3, h4, h5, h6, ?_⟩
        have hF' : ∀ d ∈ (gs q).2, w'.heap[d]? = w.heap[d]? := fun d hd => hbk d (by simp [hd])
        unfold CellsRel at *
        split
        · rename_i hl; rw [if_pos hl] at h7; exact h7.stepM hg hG hq hself hF'
        · rename_i hl; rw [if_neg hl] at h7; exact RelL.move_ (fun c hc => ⟨hc, hG c hc⟩) h7 hF'
  · obtain ⟨row0, h0⟩ := hex q row2 hq2
    exact hi.nod q row0 h0
  · obtain ⟨row0, h0⟩ := hex q row2 hq2
    exact hi.own q row0 h0
  · obtain ⟨row0, h0⟩ := hex q1 row1 h1
    obtain ⟨row0', h0'⟩ := hex q2 row2 h2
    exact hi.dis q1 q2 row0 row0' h0 h0' hne

/-- Something is laid into a map at a number at which nothing stands. -/
theorem opOK_mapUpdate {o : Oper} {K : State → Prop} {t kt et : TypeId} {m x y : Operand} {kk : IntKind} {k : Int} {r : Nat} {row : Row} (ho : o.op = .mapUpdate t m x y ∨ o.op = .insert t m x y) (ht : P.underlying t = some (.map kt et)) (hk : P.underlying kt = some (.int kk))
    (hm : ev S m = .mp r) (hr : rowAt S.rows r = some row) (hx : ev S x = .sc (.int kk k)) (hw : (ev S y).cells = [ev S y]) (hd : isData (ev S y) = true) (hno : noOwn (ev S y) = true) (hok : okCell (ev S y) = true) (hmk : mok kk row.xs) (hf : mfind k row.xs = none)
    (hK : K ((S.setRow r { row with xs := row.xs ++ [.agg [.sc (.int kk k), ev S y]] }).put o.dst .un)) : opOK P o S K := by
  intro E a w next Q hs hn
  obtain ⟨hdf, G, gs, hi⟩ := hs
  have e1 := ev_rel hi m rfl
  rw [hm] at e1
  obtain ⟨b, clock, ents, v1, hg, hh, hlk, hn2, hw2, hl⟩ := map_real hi hr e1
  have e2 := ev_rel hi x rfl
  rw [hx] at e2
  obtain ⟨v2, hv2⟩ := sc_inv e2
  have e3 := (TRelL.cons (F := []) (Fs := []) (ev_rel hi y rfl) .nil).data (by simpa using hd)
  have e3' : Rel w G (ev S y) (a.eval y) [] := by
    generalize hF : ([] ++ [] : List Nat) = F at e3
    cases e3 with
    | cons h1 h2 =>
      rename_i F1 F2
      obtain ⟨rfl, rfl⟩ : F1 = [] ∧ F2 = [] := by simpa using hF.symm
      exact h1
  obtain ⟨q, q1, q2⟩ := findNow_ok (k := k) rfl row.xs ents.toList 0 hmk hl
  rw [hf] at q2
  obtain rfl := q2
  have hrun : (execOp a.eval o).run P w = .ok .skip { w with heap := w.heap.setIfInBounds b (.map (ents.push { key := .int kk k, val := a.eval y, born := clock }) (clock + 1)) } := by
    have hb' : b < w.heap.size := (Array.getElem?_eq_some_iff.1 hh).1
    rcases ho with ho | ho <;>
      simp [execOp, ho, Instr.mapUpdate, v1, v2, run_underlying ht, run_getMap hh, run_checkKey hk, run_findKey hk q1, setObj, Sem.run, hh]
  have hinv := hi.setMap (clock' := clock + 1) (row' := { row with xs := row.xs ++ [.agg [.sc (.int kk k), ev S y]] }) (ents' := ents.push { key := .int kk k, val := a.eval y, born := clock }) hr hg hh hlk hn2 (fun z hz => by
      rcases List.mem_append.1 hz with hz | hz
      · exact hw2 z hz
      · obtain rfl : z = .agg [.sc (.int kk k), ev S y] := by simpa using hz
        rfl) (by
      have h1 : flat (row.xs ++ [A.agg [.sc (.int kk k), ev S y]]) = flat row.xs ++ [.sc (.int kk k), ev S y] := by simp [flat, A.cells]
      have h2 : entV (ents.push { key := .int kk k, val := a.eval y, born := clock }) = entV ents ++ [.int kk k, a.eval y] := by simp [entV]
      show RelL w G (flat (row.xs ++ [A.agg [.sc (.int kk k), ev S y]])) _ []
      rw [h1, h2]
      have := hl.append (RelL.cons (F := []) (Rel.sc (w := w) (G := G) (v := .int kk k) rfl) (RelL.cons (F := []) e3' .nil))
      simpa using this)
  unfold Oper.wp
  rw [hrun]
  exact hn _ _ _ hK ⟨by rw [put_defers]; exact hdf, G, _, Inv.put (S := S.setRow r _) hinv .un o.dst⟩
theorem HardX.sbs {o : Oper} {S' : State} {K : State → Prop} (hs : Sbs S S') (h : HardX P o S' K) : HardX P o S K := ⟨fun E a w next Q h1 h2 => h.h E a w next Q (hs P E a w h1) h2⟩
/-- A look into an own map. -/
theorem hard_look {o : Oper} {K : State → Prop} {t kt et : TypeId} {x y : Operand} {ok : Bool} {kk : IntKind} {k : Int} {z0 : Value} {r : Nat} {row : Row} {z : A} (ho : o.op = .lookup t x y ok) (ht : P.underlying t = some (.map kt et)) (hk : P.underlying kt = some (.int kk))
    (hz : zeroT P et = some z0) (hzo : okV z0 = true) (hx : ev S x = .mp r) (hr : rowAt S.rows r = some row) (hy : ev S y = .sc (.int kk k)) (hm : mok kk row.xs) (hf : lkA ok (mfind k row.xs) (constA z0) = z) (hK : K (S.put o.dst z)) : HardX P o S K :=
  ⟨opOK_of (VOK_lookup ho ht hk hz hzo (.inr ⟨r, row, hx, hr, rfl⟩) hy hm) (by rw [hf]; exact hK)⟩
/-- A look into a map that is only read. -/
theorem hard_lookR {o : Oper} {K : State → Prop} {t kt et : TypeId} {x y : Operand} {ok : Bool} {kk : IntKind} {k : Int} {z0 : Value} {es : List A} {z : A} (ho : o.op = .lookup t x y ok) (ht : P.underlying t = some (.map kt et)) (hk : P.underlying kt = some (.int kk))
    (hz : zeroT P et = some z0) (hzo : okV z0 = true) (hx : ev S x = .rmp es) (hy : ev S y = .sc (.int kk k)) (hm : mok kk es) (hf : lkA ok (mfind k es) (constA z0) = z) (hK : K (S.put o.dst z)) : HardX P o S K :=
  ⟨opOK_of (VOK_lookup ho ht hk hz hzo (.inl hx) hy hm) (by rw [hf]; exact hK)⟩
/-- Something is laid into a map at a number at which nothing stands. -/
theorem hard_upd {o : Oper} {K : State → Prop} {t kt et : TypeId} {m x y : Operand} {kk : IntKind} {k : Int} {r : Nat} {row : Row} {z : A} (ho : o.op = .mapUpdate t m x y ∨ o.op = .insert t m x y) (ht : P.underlying t = some (.map kt et)) (hk : P.underlying kt = some (.int kk))
    (hm : ev S m = .mp r) (hr : rowAt S.rows r = some row) (hx : ev S x = .sc (.int kk k)) (hy : ev S y = z) (hw : z.cells = [z]) (hd : isData z = true) (hno : noOwn z = true) (hok : okCell z = true) (hmk : mok kk row.xs) (hf : mfind k row.xs = none)
    (hK : ∀ zs, zs = row.xs ++ [.agg [.sc (.int kk k), z]] → K ((S.setRow r ⟨row.n, zs, row.lk⟩).put o.dst .un)) : HardX P o S K := by
  subst hy
  exact ⟨opOK_mapUpdate ho ht hk hm hr hx hw hd hno hok hmk hf (hK _ rfl)⟩
theorem mfind_app {kk : IntKind} {k : Int} {z : A} : ∀ {xs : List A}, mok kk xs → mfind k xs = none → mfind k (xs ++ [.agg [.sc (.int kk k), z]]) = some z
  | [], _, _ => by simp [mfind]
  | x :: xs, hm, h => by
    obtain ⟨⟨j, y, rfl, _⟩, hm⟩ := hm
    simp only [mfind] at h
    split at h
    · cases h
    · rename_i hne
      have := mfind_app (z := z) hm h
      simp only [List.cons_append, mfind, if_neg hne]
      exact this
end
end Go.Fw

/- Contracts of a result of which a relation speaks, for what is only read; results frozen. Plain theorems, no condition. -/
set_option linter.unusedVariables false
set_option linter.unusedSimpArgs false
namespace Go.Fw
/-- A contract that tells some result of which R speaks. -/
structure RCtr (P : Program) (g : Nat) (args : List A) (R : A → Prop) : Prop where
  enter : Enter P g
  run : ∀ (w : World) (G : Nat → Prop) (vs : List Value), GoodG P w G → RelL w G args vs [] → Calls P g vs.toArray w (fun e w' => ∃ v F x, R x ∧ e = .returned v ∧ Go.RowKit.Below w.heap.size w w' ∧
    F.Nodup ∧ (∀ b ∈ F, w.heap.size ≤ b) ∧ Rel w' (fun b => (G b ∨ (w.heap.size ≤ b ∧ b < w'.heap.size)) ∧ b ∉ F) x v F)
section
variable {P : Program} {T : Nat → Option TI} {S : State} {Ω : Opq}
theorem PCtr.r {g : Nat} {args : List A} {x : A} (h : PCtr P g args x) {R : A → Prop} (hR : R x) : RCtr P g args R :=
  ⟨h.enter, fun w G vs h1 h2 => Calls.mono (h.run w G vs h1 h2) (by rintro e w' ⟨v, F, rfl, h⟩; exact ⟨v, F, x, hR, rfl, h⟩)⟩
theorem CallOK_r {g k : Nat} {args ys : List A} {R : A → Prop} {K : A → State → Prop} (hc : RCtr P g ys R) (h1 : args.all isData = true) (h2 : fitA.fitL k args ys)
    (h : ∀ x, R x → noOwn (rootA k S x).1 = true ∧ K (rootA k S x).1 (rootA k S x).2) : CallOK P g args S K := by
  refine ⟨hc.enter, fun E G gs tmps w vs hi hl => ?_⟩
  have hys := fitL_rel (fun x y v F => fitA_rel k x y v F) args ys vs [] h2 (hl.data h1)
  refine Calls.mono (hc.run w G vs hi.glt hys) ?_
  rintro e w' ⟨v, F, x, hx, rfl, hb, hnd, hnew, hr⟩
  have hGF : ∀ b, G b → b ∉ F := fun b h hF => by have := hi.glt b h; have := hnew b hF; omega
  obtain ⟨gs', g1, g2⟩ := adopt_new hi hb hnd hnew (fun b h => ⟨.inl h, hGF b h⟩) (fun b h => ⟨h.1.imp id And.left, h.2⟩)
    (fun b h => h.1.elim (fun h => Nat.lt_of_lt_of_le (hi.glt b h) hb.size) And.right) hr k (h x hx).1
  exact ⟨v, _, _, _, gs', rfl, (h x hx).2, g1, g2⟩
theorem call_r (hΩ : Ω = std) (k : Nat) {g : Nat} {args ys : List A} {R : A → Prop} {K : A → State → Prop} (hc : RCtr P g ys R) (h1 : args.all isData = true) (h2 : fitA.fitL k args ys)
    (h : ∀ x, R x → noOwn (rootO Ω k S x).1 = true ∧ K (rootO Ω k S x).1 (rootO Ω k S x).2) : CallX P g args S K := by
  subst hΩ
  exact ⟨CallOK_r (k := k) hc h1 h2 fun x hx => by simp only [← rootO_std]; exact h x hx⟩
theorem CallOK_rf {g k : Nat} {args ys0 ys : List A} {R : A → Prop} {K : A → State → Prop} (hc : RCtr P g ys R) (h1 : mapO (roO S k) args = some ys0) (h2 : fitA.fitL k ys0 ys)
    (h : ∀ x, R x → roFree x = true ∧ noOwn (rootA k S (Fw.frz x)).1 = true ∧ K (rootA k S (Fw.frz x)).1 (rootA k S (Fw.frz x)).2) : CallOK P g args S K := by
  refine ⟨hc.enter, fun E G gs tmps w vs hi hl => ?_⟩
  have hys := fitL_rel (fun x y v F => fitA_rel k x y v F) ys0 ys vs [] h2 (mapO_rel (fun x v F y h hy => roO_rel hi k x v F y h hy) hl h1)
  refine Calls.mono (hc.run w (Old w) vs hi.glt.old hys) ?_
  rintro e w' ⟨v, F, x, hx, rfl, hb, hnd, hnew, hr⟩
  obtain ⟨hx, hno, hK⟩ := h x hx
  have hr' : Rel w' (fun b => G b ∧ b ∉ F) x v F := hr.anyG hx _
  have hr2 : Rel w' (fun b => (G b ∨ b ∈ F) ∧ b ∉ ([] : List Nat)) (Fw.frz x) v [] := hr'.frz (fun b hb => ⟨.inl hb.1, by simp⟩) fun b hb => ⟨.inr hb, by simp⟩
  obtain ⟨gs', g1, g2⟩ := adopt_new hi hb List.nodup_nil (by simp) (fun b h => ⟨.inl h, by simp⟩) (fun b h => ⟨h.1.imp id (hnew b), h.2⟩)
    (fun b h => h.1.elim (fun h => Nat.lt_of_lt_of_le (hi.glt b h) hb.size) (hr.lt b)) hr2 k hno
  exact ⟨v, _, _, _, gs', rfl, hK, g1, g2⟩
/-- The result is frozen. -/
theorem call_rf (hΩ : Ω = std) (k : Nat) {g : Nat} {args ys0 ys : List A} {R : A → Prop} {K : A → State → Prop} (hc : RCtr P g ys R) (h1 : mapO (roO S k) args = some ys0) (h2 : fitA.fitL k ys0 ys)
    (h : ∀ x, R x → roFree x = true ∧ noOwn (rootO Ω k S (Fw.frz x)).1 = true ∧ K (rootO Ω k S (Fw.frz x)).1 (rootO Ω k S (Fw.frz x)).2) : CallX P g args S K := by
  subst hΩ
  exact ⟨CallOK_rf (k := k) hc h1 h2 fun x hx => by simp only [← rootO_std]; exact h x hx⟩
theorem call_pf (hΩ : Ω = std) (k : Nat) {g : Nat} {args ys0 ys : List A} {x y : A} {K : A → State → Prop} (hc : PCtr P g ys x) (h1 : mapO (roO S k) args = some ys0) (h2 : fitA.fitL k ys0 ys) (hx : roFree x = true) (hy : Fw.frz x = y)
    (hno : noOwn (rootO Ω k S y).1 = true) (hK : K (rootO Ω k S y).1 (rootO Ω k S y).2) : CallX P g args S K :=
  call_rf hΩ k (hc.r (R := fun z => z = x) rfl) h1 h2 fun z hz => by subst hz; subst hy; exact ⟨hx, hno, hK⟩
end
end Go.Fw

/- Walks: marks. Plain theorems. -/
import Derived.Test.YtdngjnjapihbkaaWb13
import Derived.Test.YtdngjnjapihbkaaWm
set_option linter.unusedVariables false
set_option linter.unusedSimpArgs false
namespace Go.Proofs.Ytdngjnjapihbkaa
open Go Go.Fw
set_option maxRecDepth 100000
theorem addV {Ω : Opq} (hΩ : Ω = std) {y : Int} (h0 : 0 ≤ y) (h1 : y ≤ 4611686018427387904) : Ω.ar .add .i64 y 1 = y + 1 := by subst hΩ; exact wrap64 (by omega) (by omega)
theorem fitsE {k : Nat} {a b : List A} (h : a = b) : fitA.fitL k a b := h ▸ fits a
theorem addV7 {Ω : Opq} (hΩ : Ω = std) {y : Int} (h0 : 0 ≤ y) (h1 : y ≤ 4611686018427387800) :
    Ω.ar .add .i64 (Ω.ar .add .i64 (Ω.ar .add .i64 (Ω.ar .add .i64 (Ω.ar .add .i64 (Ω.ar .add .i64 (Ω.ar .add .i64 y 1) 1) 1) 1) 1) 1) 1 = y + 7 := by
  have e := fun z h0 h1 => addV hΩ (y := z) h0 h1
  rw [e y h0 (by omega), e (y + 1) (by omega) (by omega), e (y + 1 + 1) (by omega) (by omega), e (y + 1 + 1 + 1) (by omega) (by omega), e (y + 1 + 1 + 1 + 1) (by omega) (by omega), e (y + 1 + 1 + 1 + 1 + 1) (by omega) (by omega), e (y + 1 + 1 + 1 + 1 + 1 + 1) (by omega) (by omega)]
  omega
theorem addV5 {Ω : Opq} (hΩ : Ω = std) {y : Int} (h0 : 0 ≤ y) (h1 : y ≤ 4611686018427387800) :
    Ω.ar .add .i64 (Ω.ar .add .i64 (Ω.ar .add .i64 (Ω.ar .add .i64 (Ω.ar .add .i64 y 1) 1) 1) 1) 1 = y + 5 := by
  have e := fun z h0 h1 => addV hΩ (y := z) h0 h1
  rw [e y h0 (by omega), e (y + 1) (by omega) (by omega), e (y + 1 + 1) (by omega) (by omega), e (y + 1 + 1 + 1) (by omega) (by omega), e (y + 1 + 1 + 1 + 1) (by omega) (by omega)]
  omega
/-- ys is xs but for what stands up to i. -/
structure Like (xs : List A) (i : Nat) (ys : List A) : Prop where
  len : ys.length = xs.length
  at' : ∀ q, i < q → ys[q]? = xs[q]?
theorem Like.set {Ω : Opq} (hΩ : Ω = std) {xs ys : List A} {i : Nat} {z : A} (h : Like xs i ys) : Like xs i (Ω.set ys (Ω.plus 0 (Ω.nat (Ω.int i))) z) := by
  subst hΩ
  show Like xs i (ys.set (0 + i) z)
  rw [Nat.zero_add]
  exact ⟨by simpa using h.len, fun q hq => by rw [List.getElem?_set_ne (by omega)]; exact h.at' q hq⟩
def psum {α : Type} (f : α → Nat) (d : List α) (i : Nat) : Nat := ((d.take i).map f).sum
theorem psum_at {α : Type} {f : α → Nat} {d : List α} {i : Nat} {c : α} (h : d[i]? = some c) : psum f d (i + 1) = psum f d i + f c := by
  unfold psum
  rw [List.take_add_one, h, List.map_append, List.sum_append]
  simp
theorem psum_zero {α : Type} {f : α → Nat} {d : List α} : psum f d 0 = 0 := by simp [psum]
theorem psum_const {α : Type} (m : Nat) (d : List α) : psum (fun _ => m) d d.length = m * d.length := by
  unfold psum
  rw [List.take_length]
  induction d with
  | nil => rfl
  | cons x d ih => simp only [List.map_cons, List.sum_cons, List.length_cons, ih]; rw [Nat.mul_succ]; omega
theorem setNA {Ω : Opq} (hΩ : Ω = std) {ys : List A} {j : Nat} {z : A} (h : ∀ y ∈ ys, vStore.isAggA y = false) (hz : vStore.isAggA z = false) : ∀ y ∈ Ω.set ys j z, vStore.isAggA y = false := by
  subst hΩ
  intro y hy
  rcases List.mem_or_eq_of_mem_set hy with hy | rfl
  · exact h y hy
  · exact hz
theorem psum_le {α : Type} {f : α → Nat} {d : List α} : ∀ (i : Nat), psum f d i ≤ psum f d d.length := by
  intro i
  unfold psum
  rw [List.take_length]
  conv => rhs; rw [← List.take_append_drop i d, List.map_append, List.sum_append]
  omega
theorem c_markStringS (cs : List (List UInt8)) (k : Int) (h0 : 0 ≤ k) (h1 : k + psum (fun _ => 1) cs cs.length ≤ 1099511627776) (hb : cs.length ≤ 1048576) : ECtr PP n_laws_markStringS [.sl true 1 (cs.map (str)), i64 k] (i64 (k + psum (fun _ => 1) cs cs.length)) := by
  obtain ⟨Ω, hΩ⟩ : ∃ Ω, Ω = std := ⟨_, rfl⟩
  obtain ⟨xs, hxs⟩ : ∃ xs, xs = cs.map (str) := ⟨_, rfl⟩
  have hlen : xs.length = cs.length := by rw [hxs, List.length_map]
  have hna : ∀ y ∈ xs, vStore.isAggA y = false := fun y hy => by rw [hxs] at hy; obtain ⟨c, _, rfl⟩ := List.mem_map.1 hy; rfl
  obtain ⟨kf, hkf⟩ : ∃ kf : Nat → Int, kf = fun i => k + psum (fun _ => 1) cs i := ⟨_, rfl⟩
  have hk0 : kf 0 = k := by rw [hkf]; simp [psum_zero]
  have hkn : kf cs.length = k + psum (fun _ => 1) cs cs.length := by rw [hkf]
  have hkp : ∀ i, 0 ≤ kf i ∧ kf i ≤ 1099511627776 := fun i => by rw [hkf]; have := psum_le (f := fun _ => 1) (d := cs) i; simp only; omega
  have hks : ∀ i c, cs[i]? = some c → kf (i + 1) = kf i + ((fun _ => 1) c : Nat) := fun i c h => by rw [hkf]; simp only; rw [psum_at h]; omega
  clear hkf
  rw [← hkn, ← hxs]
  have hle : Ω.len xs = xs.length := by subst hΩ; rfl
  have hc := c_markText
  have htab := tab
  have hmo := hmo
  refine ECtr.walk tab hΩ 3 fn_laws_markStringS rfl rfl ?_
  generalize PP = P at *
  cbv
  refine loopX htab hΩ (fun i : Nat × List A => ⟨[(0, .vw 0 0 (Ω.len xs)), (1, .sc (.int .i64 (kf i.1))), (5, .sc (.int .i64 (Ω.int i.1)))], 20, [some ⟨1, i.2, false⟩]⟩)
    (fun i => i.1 ≤ cs.length ∧ i.2.length = cs.length ∧ (∀ q, i.1 ≤ q → i.2[q]? = xs[q]?) ∧ (∀ y ∈ i.2, vStore.isAggA y = false)) (fun i => cs.length - i.1) (0, xs) ⟨Nat.zero_le _, hlen, fun _ _ => rfl, hna⟩ (Sbs.mk rfl rfl ⟨rfl, congrArg i64 hk0.symm, zeroI hΩ, trivial⟩) ?_
  rintro ⟨i, ys⟩ ⟨hi, hyl, hya, hyn⟩
  dsimp only at hi hyl hya hyn
  dsimp only
  have hki := hkp i
  have hki1 := hkp (i + 1)
  cbv
  refine br (fun h => ?_) (fun h => ?_) <;> cbv
  · replace h := ltI hΩ h
    obtain ⟨c, hcc⟩ := at_of (cs := cs) (by omega : i < cs.length)
    have hcm := List.mem_of_getElem? hcc
    have hkc := hks i c hcc
    have hlk : Like xs i ys := ⟨by omega, fun q hq => hya q (by omega)⟩
    have hyi : ys[i]? = some ((str) c) := by rw [hya i (Nat.le_refl _), hxs, List.getElem?_map, hcc]; rfl
    have hil : i < Ω.len xs := by rw [hle]; exact h
    replace hkc : kf (i + 1) = kf i + 1 := by simpa using hkc
    have hy1 := (addV hΩ hki.1 (by omega)).trans hkc.symm
    refine call_pure hΩ 3 (hc (kf i) (by omega)) rfl (fits _) rfl rfl ?_
    generalize markT (kf i) = mt
    cbv
    have hL := hlk.set hΩ (z := str mt)
    have hLl := hL.len
    refine ⟨⟨ixI hΩ hil⟩, ⟨by subst hΩ; show 0 + i < ys.length; omega, hyn⟩, (i + 1, Ω.set ys (Ω.plus 0 (Ω.nat (Ω.int i))) (str mt)), ⟨by dsimp only; omega, by dsimp only; omega, fun q hq => hL.at' q hq, setNA hΩ hyn rfl⟩, by dsimp only; omega,
      Sbs.mk rfl rfl ⟨rfl, congrArg i64 hy1, incI hΩ (by omega), trivial⟩⟩
  · have hj : i = cs.length := by have := geI hΩ h; omega
    subst hj
    exact .same
theorem c_markTermS (cs : List (Trm)) (k : Int) (h0 : 0 ≤ k) (h1 : k + psum (fun _ => 7) cs cs.length ≤ 1099511627776) (hb : cs.length ≤ 1048576) : ECtr PP n_laws_markTermS [.sl true 7 (cs.map (Trm.enc)), i64 k] (i64 (k + psum (fun _ => 7) cs cs.length)) := by
  obtain ⟨Ω, hΩ⟩ : ∃ Ω, Ω = std := ⟨_, rfl⟩
  obtain ⟨xs, hxs⟩ : ∃ xs, xs = cs.map (Trm.enc) := ⟨_, rfl⟩
  have hlen : xs.length = cs.length := by rw [hxs, List.length_map]
  have hna : ∀ y ∈ xs, True := fun y hy => by trivial
  obtain ⟨kf, hkf⟩ : ∃ kf : Nat → Int, kf = fun i => k + psum (fun _ => 7) cs i := ⟨_, rfl⟩
  have hk0 : kf 0 = k := by rw [hkf]; simp [psum_zero]
  have hkn : kf cs.length = k + psum (fun _ => 7) cs cs.length := by rw [hkf]
  have hkp : ∀ i, 0 ≤ kf i ∧ kf i ≤ 1099511627776 := fun i => by rw [hkf]; have := psum_le (f := fun _ => 7) (d := cs) i; simp only; omega
  have hks : ∀ i c, cs[i]? = some c → kf (i + 1) = kf i + ((fun _ => 7) c : Nat) := fun i c h => by rw [hkf]; simp only; rw [psum_at h]; omega
  clear hkf
  rw [← hkn, ← hxs]
  have hle : Ω.len xs = xs.length := by subst hΩ; rfl
  have hc := c_markText
  have htab := tab
  have hmo := hmo
  refine ECtr.walk tab hΩ 3 fn_laws_markTermS rfl rfl ?_
  generalize PP = P at *
  cbv
  refine loopX htab hΩ (fun i : Nat × List A => ⟨[(0, .vw 0 0 (Ω.len xs)), (1, .sc (.int .i64 (kf i.1))), (5, .sc (.int .i64 (Ω.int i.1)))], 69, [some ⟨7, i.2, false⟩]⟩)
    (fun i => i.1 ≤ cs.length ∧ i.2.length = cs.length ∧ (∀ q, i.1 ≤ q → i.2[q]? = xs[q]?)) (fun i => cs.length - i.1) (0, xs) ⟨Nat.zero_le _, hlen, fun _ _ => rfl⟩ (Sbs.mk rfl rfl ⟨rfl, congrArg i64 hk0.symm, zeroI hΩ, trivial⟩) ?_
  rintro ⟨i, ys⟩ ⟨hi, hyl, hya⟩
  dsimp only at hi hyl hya
  dsimp only
  have hki := hkp i
  have hki1 := hkp (i + 1)
  cbv
  refine br (fun h => ?_) (fun h => ?_) <;> cbv
  · replace h := ltI hΩ h
    obtain ⟨c, hcc⟩ := at_of (cs := cs) (by omega : i < cs.length)
    have hcm := List.mem_of_getElem? hcc
    have hkc := hks i c hcc
    have hlk : Like xs i ys := ⟨by omega, fun q hq => hya q (by omega)⟩
    have hyi : ys[i]? = some ((Trm.enc) c) := by rw [hya i (Nat.le_refl _), hxs, List.getElem?_map, hcc]; rfl
    have hil : i < Ω.len xs := by rw [hle]; exact h
    replace hkc : kf (i + 1) = kf i + 7 := by simpa using hkc
    have hy1 := (addV7 hΩ hki.1 (by omega)).trans hkc.symm
    have hlt : i < ys.length := by omega
    refine call_pure hΩ 3 (hc (kf i) (by omega)) rfl (fits _) rfl rfl ?_
    generalize markT (kf i) = mt
    cbv
    refine ⟨⟨ixI hΩ hil⟩, _, atI hΩ hyi, ?_⟩
    cbv
    refine ⟨⟨ixI hΩ hil⟩, _, setI hΩ hlt, ?_⟩
    cbv
    refine ⟨⟨ixI hΩ hil⟩, _, setI hΩ (setI_lt hΩ hlt), ?_⟩
    cbv
    refine ⟨⟨ixI hΩ hil⟩, _, setI hΩ (setI_lt hΩ (setI_lt hΩ hlt)), ?_⟩
    cbv
    refine ⟨⟨ixI hΩ hil⟩, _, setI hΩ (setI_lt hΩ (setI_lt hΩ (setI_lt hΩ hlt))), ?_⟩
    cbv
    refine ⟨⟨ixI hΩ hil⟩, _, setI hΩ (setI_lt hΩ (setI_lt hΩ (setI_lt hΩ (setI_lt hΩ hlt)))), ?_⟩
    cbv
    refine ⟨⟨ixI hΩ hil⟩, _, setI hΩ (setI_lt hΩ (setI_lt hΩ (setI_lt hΩ (setI_lt hΩ (setI_lt hΩ hlt))))), ?_⟩
    cbv
    refine ⟨(i + 1, _), ⟨?pa, ?pb, ?pc⟩, ?pd, Sbs.mk rfl rfl ⟨rfl, congrArg i64 hy1, incI hΩ (by omega), trivial⟩⟩
    case pa => dsimp only; omega
    case pd => dsimp only; omega
    case pb => exact (((((((hlk.set hΩ).set hΩ).set hΩ).set hΩ).set hΩ).set hΩ).set hΩ).len.trans hlen
    case pc => exact fun q hq => (((((((hlk.set hΩ).set hΩ).set hΩ).set hΩ).set hΩ).set hΩ).set hΩ).at' q hq
  · have hj : i = cs.length := by have := geI hΩ h; omega
    subst hj
    exact .same
theorem c_markTermSS (cs : List (List Trm)) (k : Int) (h0 : 0 ≤ k) (h1 : k + psum (fun l => 7 * l.length) cs cs.length ≤ 1099511627776) (hb : cs.length ≤ 1048576) (hl : ∀ l ∈ cs, l.length ≤ 1048576) : ECtr PP n_laws_markTermSS [.sl true 1 (cs.map (encTs true)), i64 k] (i64 (k + psum (fun l => 7 * l.length) cs cs.length)) := by
  obtain ⟨Ω, hΩ⟩ : ∃ Ω, Ω = std := ⟨_, rfl⟩
  obtain ⟨xs, hxs⟩ : ∃ xs, xs = cs.map (encTs true) := ⟨_, rfl⟩
  have hlen : xs.length = cs.length := by rw [hxs, List.length_map]
  have hna : ∀ y ∈ xs, vStore.isAggA y = false := fun y hy => by rw [hxs] at hy; obtain ⟨c, _, rfl⟩ := List.mem_map.1 hy; rfl
  obtain ⟨kf, hkf⟩ : ∃ kf : Nat → Int, kf = fun i => k + psum (fun l => 7 * l.length) cs i := ⟨_, rfl⟩
  have hk0 : kf 0 = k := by rw [hkf]; simp [psum_zero]
  have hkn : kf cs.length = k + psum (fun l => 7 * l.length) cs cs.length := by rw [hkf]
  have hkp : ∀ i, 0 ≤ kf i ∧ kf i ≤ 1099511627776 := fun i => by rw [hkf]; have := psum_le (f := fun l => 7 * l.length) (d := cs) i; simp only; omega
  have hks : ∀ i c, cs[i]? = some c → kf (i + 1) = kf i + ((fun l => 7 * l.length) c : Nat) := fun i c h => by rw [hkf]; simp only; rw [psum_at h]; omega
  clear hkf
  rw [← hkn, ← hxs]
  have hle : Ω.len xs = xs.length := by subst hΩ; rfl
  have hc := c_markText
  have hmT := c_markTermS
  have htab := tab
  have hmo := hmo
  refine ECtr.walk tab hΩ 3 fn_laws_markTermSS rfl rfl ?_
  generalize PP = P at *
  cbv
  refine loopX htab hΩ (fun i : Nat × List A => ⟨[(0, .vw 0 0 (Ω.len xs)), (1, .sc (.int .i64 (kf i.1))), (5, .sc (.int .i64 (Ω.int i.1)))], 19, [some ⟨1, i.2, false⟩]⟩)
    (fun i => i.1 ≤ cs.length ∧ i.2.length = cs.length ∧ (∀ q, i.1 ≤ q → i.2[q]? = xs[q]?) ∧ (∀ y ∈ i.2, vStore.isAggA y = false)) (fun i => cs.length - i.1) (0, xs) ⟨Nat.zero_le _, hlen, fun _ _ => rfl, hna⟩ (Sbs.mk rfl rfl ⟨rfl, congrArg i64 hk0.symm, zeroI hΩ, trivial⟩) ?_
  rintro ⟨i, ys⟩ ⟨hi, hyl, hya, hyn⟩
  dsimp only at hi hyl hya hyn
  dsimp only
  have hki := hkp i
  have hki1 := hkp (i + 1)
  cbv
  refine br (fun h => ?_) (fun h => ?_) <;> cbv
  · replace h := ltI hΩ h
    obtain ⟨c, hcc⟩ := at_of (cs := cs) (by omega : i < cs.length)
    have hcm := List.mem_of_getElem? hcc
    have hkc := hks i c hcc
    have hlk : Like xs i ys := ⟨by omega, fun q hq => hya q (by omega)⟩
    have hyi : ys[i]? = some ((encTs true) c) := by rw [hya i (Nat.le_refl _), hxs, List.getElem?_map, hcc]; rfl
    have hil : i < Ω.len xs := by rw [hle]; exact h
    obtain ⟨ts, hen, hts⟩ : ∃ ts, encTs true c = .sl true 7 ts ∧ ts = c.map Trm.enc := ⟨_, rfl, rfl⟩
    replace hkc : kf (i + 1) = kf i + (7 * c.length : Nat) := hkc
    have hm := hmT c (kf i) hki.1 (by rw [psum_const]; show kf i + ((7 * c.length : Nat) : Int) ≤ _; omega) (hl c hcm)
    rw [psum_const, ← hkc, ← hts] at hm
    refine ⟨⟨ixI hΩ hil⟩, _, (atI hΩ hyi).trans (congrArg some hen), ?_⟩
    cbv
    refine call_eat2 (row := ⟨7, ts, false⟩) hΩ 3 hm rfl rfl (by subst hΩ; rfl) rfl (fits _) rfl rfl ?_
    cbv
    have hL := hlk.set hΩ (z := .un)
    have hLl := hL.len
    exact ⟨(i + 1, Ω.set ys (Ω.plus 0 (Ω.nat (Ω.int i))) .un), ⟨by dsimp only; omega, by dsimp only; omega, fun q hq => hL.at' q hq, setNA hΩ hyn rfl⟩, by dsimp only; omega,
      Sbs.trans (Sbs.lastN (rows := [_]) rfl) (Sbs.mk rfl rfl ⟨rfl, rfl, incI hΩ (by omega), trivial⟩)⟩
  · have hj : i = cs.length := by have := geI hΩ h; omega
    subst hj
    exact .same
/-- How many marks a package takes. -/
def Pck.cnt (o : Pck) : Nat := 5 + psum (fun _ => 1) o.p o.p.length + psum (fun l : List Trm => 7 * l.length) o.d o.d.length + psum (fun _ => 7) o.b o.b.length
theorem cnt_split {y z : Int} {o : Pck} (h : z = y + (o.cnt : Nat)) : ∃ y1 y2 y3 : Int, y1 = y + 5 ∧ y2 = y1 + (psum (fun _ => 1) o.p o.p.length : Nat) ∧ y3 = y2 + (psum (fun l : List Trm => 7 * l.length) o.d o.d.length : Nat) ∧ z = y3 + (psum (fun _ => 7) o.b o.b.length : Nat) ∧ y ≤ y1 ∧ y1 ≤ y2 ∧ y2 ≤ y3 ∧ y3 ≤ z :=
  ⟨_, _, _, rfl, rfl, rfl, by rw [h]; unfold Pck.cnt; omega, by omega, by omega, by omega, by rw [h]; unfold Pck.cnt; omega⟩
theorem c_markPackS (cs : List (Pck)) (k : Int) (h0 : 0 ≤ k) (h1 : k + psum (Pck.cnt) cs cs.length ≤ 1099511627776) (hb : cs.length ≤ 1048576) (hl : ∀ l ∈ cs, l.Small) : ECtr PP n_laws_markPackS [.sl true 8 (cs.map (Pck.enc true)), i64 k] (i64 (k + psum (Pck.cnt) cs cs.length)) := by
  obtain ⟨Ω, hΩ⟩ : ∃ Ω, Ω = std := ⟨_, rfl⟩
  obtain ⟨xs, hxs⟩ : ∃ xs, xs = cs.map (Pck.enc true) := ⟨_, rfl⟩
  have hlen : xs.length = cs.length := by rw [hxs, List.length_map]
  have hna : ∀ y ∈ xs, True := fun y hy => by trivial
  obtain ⟨kf, hkf⟩ : ∃ kf : Nat → Int, kf = fun i => k + psum (Pck.cnt) cs i := ⟨_, rfl⟩
  have hk0 : kf 0 = k := by rw [hkf]; simp [psum_zero]
  have hkn : kf cs.length = k + psum (Pck.cnt) cs cs.length := by rw [hkf]
  have hkp : ∀ i, 0 ≤ kf i ∧ kf i ≤ 1099511627776 := fun i => by rw [hkf]; have := psum_le (f := Pck.cnt) (d := cs) i; simp only; omega
  have hks : ∀ i c, cs[i]? = some c → kf (i + 1) = kf i + ((Pck.cnt) c : Nat) := fun i c h => by rw [hkf]; simp only; rw [psum_at h]; omega
  clear hkf
  rw [← hkn, ← hxs]
  have hle : Ω.len xs = xs.length := by subst hΩ; rfl
  have hc := c_markText
  have hcl : ∀ i c, cs[i]? = some c → ∃ y1 y2 y3 : Int, kf i + 5 = y1 ∧ ECtr PP n_laws_markStringS [.sl true 1 (c.p.map str), i64 y1] (i64 y2) ∧ ECtr PP n_laws_markTermSS [.sl true 1 (c.d.map (encTs true)), i64 y2] (i64 y3) ∧ ECtr PP n_laws_markTermS [.sl true 7 (c.b.map Trm.enc), i64 y3] (i64 (kf (i + 1))) := fun i c h => by
    obtain ⟨y1, y2, y3, hy1, hy2, hy3, hy4, hb1, hb2, hb3, hb4⟩ := cnt_split (hks i c h)
    have hsm := hl c (List.mem_of_getElem? h)
    have hki := hkp i
    have hki1 := hkp (i + 1)
    have hmp := c_markStringS c.p y1 (by omega) (by omega) hsm.p
    have hmd := c_markTermSS c.d y2 (by omega) (by omega) hsm.d hsm.e
    have hmb := c_markTermS c.b y3 (by omega) (by omega) hsm.b
    rw [← hy2] at hmp
    rw [← hy3] at hmd
    rw [← hy4] at hmb
    exact ⟨y1, y2, y3, hy1.symm, hmp, hmd, hmb⟩
  have htab := tab
  have hmo := hmo
  refine ECtr.walk tab hΩ 3 fn_laws_markPackS rfl rfl ?_
  generalize PP = P at *
  cbv
  refine loopX htab hΩ (fun i : Nat × List A => ⟨[(0, .vw 0 0 (Ω.len xs)), (1, .sc (.int .i64 (kf i.1))), (5, .sc (.int .i64 (Ω.int i.1)))], 73, [some ⟨8, i.2, false⟩]⟩)
    (fun i => i.1 ≤ cs.length ∧ i.2.length = cs.length ∧ (∀ q, i.1 ≤ q → i.2[q]? = xs[q]?)) (fun i => cs.length - i.1) (0, xs) ⟨Nat.zero_le _, hlen, fun _ _ => rfl⟩ (Sbs.mk rfl rfl ⟨rfl, congrArg i64 hk0.symm, zeroI hΩ, trivial⟩) ?_
  rintro ⟨i, ys⟩ ⟨hi, hyl, hya⟩
  dsimp only at hi hyl hya
  dsimp only
  have hki := hkp i
  have hki1 := hkp (i + 1)
  cbv
  refine br (fun h => ?_) (fun h => ?_) <;> cbv
  · replace h := ltI hΩ h
    obtain ⟨c, hcc⟩ := at_of (cs := cs) (by omega : i < cs.length)
    have hcm := List.mem_of_getElem? hcc
    have hkc := hks i c hcc
    have hlk : Like xs i ys := ⟨by omega, fun q hq => hya q (by omega)⟩
    have hyi : ys[i]? = some ((Pck.enc true) c) := by rw [hya i (Nat.le_refl _), hxs, List.getElem?_map, hcc]; rfl
    have hil : i < Ω.len xs := by rw [hle]; exact h
    obtain ⟨y1, y2, y3, hy1, hmp, hmd, hmb⟩ := hcl i c hcc
    have hlt : i < ys.length := by omega
    have hy1' := (addV5 hΩ hki.1 (by omega)).trans hy1
    refine call_pure hΩ 3 (hc (kf i) (by omega)) rfl (fits _) rfl rfl ?_
    generalize markT (kf i) = mt
    obtain ⟨ps, ds, bs, hen, hps, hds, hbs⟩ := enc_own c
    rw [← hps] at hmp
    rw [← hds] at hmd
    rw [← hbs] at hmb
    cbv
    refine ⟨⟨ixI hΩ hil⟩, _, (atI hΩ hyi).trans (congrArg some hen), ?_⟩
    cbv
    refine ⟨⟨ixI hΩ hil⟩, _, setI hΩ hlt, ?_⟩
    cbv
    refine ⟨⟨ixI hΩ hil⟩, _, setI hΩ (setI_lt hΩ hlt), ?_⟩
    cbv
    refine ⟨⟨ixI hΩ hil⟩, _, setI hΩ (setI_lt hΩ (setI_lt hΩ hlt)), ?_⟩
    cbv
    refine ⟨⟨ixI hΩ hil⟩, _, setI hΩ (setI_lt hΩ (setI_lt hΩ (setI_lt hΩ hlt))), ?_⟩
    cbv
    refine ⟨⟨ixI hΩ hil⟩, _, setI hΩ (setI_lt hΩ (setI_lt hΩ (setI_lt hΩ (setI_lt hΩ hlt)))), ?_⟩
    cbv
    refine call_eat2 (row := ⟨1, ps, false⟩) hΩ 3 hmp rfl rfl (by subst hΩ; rfl) rfl (fitsE (congrArg (fun z => [i64 z]) hy1')) rfl rfl ?_
    cbv
    refine ⟨⟨ixI hΩ hil⟩, _, setI hΩ (setI_lt hΩ (setI_lt hΩ (setI_lt hΩ (setI_lt hΩ (setI_lt hΩ hlt))))), ?_⟩
    cbv
    refine call_eat2 (row := ⟨1, ds, false⟩) hΩ 3 hmd rfl rfl (by subst hΩ; rfl) rfl (fits _) rfl rfl ?_
    cbv
    refine ⟨⟨ixI hΩ hil⟩, _, setI hΩ (setI_lt hΩ (setI_lt hΩ (setI_lt hΩ (setI_lt hΩ (setI_lt hΩ (setI_lt hΩ hlt)))))), ?_⟩
    cbv
    refine call_eat2 (row := ⟨7, bs, false⟩) hΩ 3 hmb rfl rfl (by subst hΩ; rfl) rfl (fits _) rfl rfl ?_
    cbv
    refine ⟨(i + 1, _), ⟨?pa, ?pb, ?pc⟩, ?pd, Sbs.trans (Sbs.lastN (rows := [_, none, none]) rfl) (Sbs.trans (Sbs.lastN (rows := [_, none]) rfl) (Sbs.trans (Sbs.lastN (rows := [_]) rfl) (Sbs.mk rfl rfl ⟨rfl, rfl, incI hΩ (by omega), trivial⟩)))⟩
    case pa => dsimp only; omega
    case pd => dsimp only; omega
    case pb => exact ((((((((hlk.set hΩ).set hΩ).set hΩ).set hΩ).set hΩ).set hΩ).set hΩ).set hΩ).len.trans hlen
    case pc => exact fun q hq => ((((((((hlk.set hΩ).set hΩ).set hΩ).set hΩ).set hΩ).set hΩ).set hΩ).set hΩ).at' q hq

  · have hj : i = cs.length := by have := geI hΩ h; omega
    subst hj
    exact .same
end Go.Proofs.Ytdngjnjapihbkaa

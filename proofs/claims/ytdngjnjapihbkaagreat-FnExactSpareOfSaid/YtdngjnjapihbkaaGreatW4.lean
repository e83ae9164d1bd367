/- Walks: the marks' text. Plain theorems. -/
import Derived.Test.YtdngjnjapihbkaaGreatW1
import Derived.Test.YtdngjnjapihbkaaGreatW3
set_option linter.unusedVariables false
set_option linter.unusedSimpArgs false
namespace Go.Proofs.YtdngjnjapihbkaaGreat
open Go Go.Fw
set_option maxRecDepth 100000
def mkL (k : Nat) (out : List UInt8) : List UInt8 := if k = 0 then out else mkL (k / 10) (UInt8.ofNat (48 + k % 10) :: out)
termination_by k
decreasing_by omega
def markT (k : Int) : List UInt8 := if k ≤ 0 then [109, 48] else 109 :: mkL k.toNat []
theorem mark_byte (k : Nat) : IntKind.u8.wrap (IntKind.i64.wrap (48 + Int.tmod (k : Int) 10)) = ((UInt8.ofNat (48 + k % 10)).toNat : Int) := by
  have h1 : Int.tmod (k : Int) 10 = ((k % 10 : Nat) : Int) := by rw [Int.tmod_eq_emod_of_nonneg (by omega)]; omega
  have h2 : k % 10 < 10 := Nat.mod_lt _ (by omega)
  have h3 : (UInt8.ofNat (48 + k % 10)).toNat = 48 + k % 10 := by simp; omega
  rw [h1, wrap64 (by omega) (by omega), h3]
  have h4 : ∀ y : Int, IntKind.u8.wrap y = y % 256 := fun y => rfl
  rw [h4]
  omega
theorem c_markText (k : Int) (hk : k ≤ 1152921504606846976) : PCtr PP n_laws_markText [i64 k] (str (markT k)) := by
  obtain ⟨Ω, hΩ⟩ : ∃ Ω, Ω = std := ⟨_, rfl⟩
  obtain ⟨r, hr⟩ : ∃ r, r = markT k := ⟨_, rfl⟩
  rw [← hr]
  have htab := tab
  refine PCtr.walk tab hΩ fn_laws_markText rfl ?_
  generalize PP = P at *
  cbv
  refine br (fun h => ?_) (fun h => ?_)
  · replace h : r = [109, 48] := by rw [hr, markT, if_pos (leI_t hΩ h)]
    cbv
    exact .of (congrArg str h.symm)
  obtain ⟨n, hn, hrn, hnb⟩ : ∃ n : Nat, k = Ω.int n ∧ r = 109 :: mkL n [] ∧ n ≤ 1152921504606846976 := by
    have h := leI_f hΩ h
    refine ⟨k.toNat, ?_, by rw [hr, markT, if_neg (by omega)], by omega⟩
    subst hΩ
    exact (Int.toNat_of_nonneg (by omega)).symm
  subst hn
  cbv
  refine loopX htab hΩ (fun i : Nat × List UInt8 => ⟨[(0, .sc (.int .i64 (Ω.int i.1))), (3, .sc (.string (mkS i.2)))], 20, []⟩) (fun i => i.1 + i.2.length ≤ 1152921504606846976 ∧ r = 109 :: mkL i.1 i.2) (fun i => i.1) (n, []) ⟨by simpa using hnb, hrn⟩
    (Sbs.mk rfl rfl ⟨rfl, rfl, trivial⟩) ?_
  rintro ⟨m, out⟩ ⟨hm, he⟩
  dsimp only at hm he
  cbv
  refine br (fun h => ?_) (fun h => ?_)
  · have hm0 : m ≠ 0 := by subst hΩ; have h : (0 : Int) < (m : Int) := gt_t h; omega
    rw [mkL, if_neg hm0] at he
    obtain ⟨b, hb⟩ : ∃ b, b = UInt8.ofNat (48 + m % 10) := ⟨_, rfl⟩
    rw [← hb] at he
    have hb2 : Ω.wrap .u8 (Ω.ar .add .i64 48 (Ω.ar .rem .i64 (Ω.int m) 10)) = (b.toNat : Int) := by subst hΩ; rw [hb]; exact mark_byte m
    have hq : i64 (Ω.ar .quo .i64 (Ω.int m) 10) = i64 (Ω.int (m / 10)) := by
      subst hΩ
      show i64 (IntKind.i64.wrap ((m : Int).tdiv 10)) = i64 ((m / 10 : Nat) : Int)
      rw [show (m : Int).tdiv 10 = ((m / 10 : Nat) : Int) by rw [Int.tdiv_eq_ediv_of_nonneg (by omega)]; omega, wrap64 (by omega) (by omega)]
    have hm2 : m / 10 + (b :: out).length ≤ 1152921504606846976 := by simp only [List.length_cons]; omega
    have hm3 : m / 10 < m := by omega
    have hl : (([b] : List UInt8).length + out.length : Nat) ≤ 9223372036854775807 := by simp only [List.length_singleton]; omega
    have hl2 : ((([b] : List UInt8).length + out.length : Nat) : Int) ≤ 9223372036854775807 := by omega
    cbv
    refine ⟨⟨by decide⟩, [b], ⟨Nat.le_refl 1, congrArg (fun v => [A.sc (.int .u8 v)]) hb2⟩, ?_⟩
    cbv
    refine ⟨⟨hl2⟩, ⟨by decide⟩, (m / 10, b :: out), ⟨hm2, he⟩, hm3, Sbs.mkL (rows := []) rfl rfl rfl ⟨hq, ?_, trivial⟩⟩
    subst hΩ; rfl
  · have hm0 : m = 0 := by subst hΩ; have h : (m : Int) ≤ 0 := gt_f h; omega
    rw [mkL, if_pos hm0] at he
    have hl2 : ((([109] : List UInt8).length + out.length : Nat) : Int) ≤ 9223372036854775807 := by simp only [List.length_singleton]; omega
    cbv
    refine ⟨⟨hl2⟩, .of ?_⟩
    rw [he]; subst hΩ; rfl
end Go.Proofs.YtdngjnjapihbkaaGreat

/- Walks: marks. Plain theorems. -/
set_option linter.unusedVariables false
set_option linter.unusedSimpArgs false
namespace Go.Proofs.YtdngjnjapihbkaaGreat
open Go Go.Fw
set_option maxRecDepth 100000
theorem addV {Ω : Opq} (hΩ : Ω = std) {y : Int} (h0 : 0 ≤ y) (h1 : y ≤ 4611686018427387904) : Ω.ar .add .i64 y 1 = y + 1 := by subst hΩ; exact wrap64 (by omega) (by omega)
theorem fitsE {k : Nat} {a b : List A} (h : a = b) : fitA.fitL k a b := h ▸ fits a
theorem addV7 {Ω : Opq} (hΩ : Ω = std) {y : Int} (h0 : 0 ≤ y) (h1 : y ≤ 4611686018427387800) :
    Ω.ar .add .i64 (Ω.ar .add .i64 (Ω.ar .add .i64 (Ω.ar .add .i64 (Ω.ar .add .i64 (Ω.ar .add .i64 (Ω.ar .add .i64 y 1) 1) 1) 1) 1) 1) 1 = y + 7 := by
  have e := fun z h0 h1 => addV hΩ (y := z) h0 h1
  rw [e y h0 (by omega), e (y + 1) (by omega) (by omega), e (y + 1 + 1) (by omega) (by omega), e (y + 1 + 1 + 1) (by omega) (by omega), e (y + 1 + 1 + 1 + 1) (by omega) (by omega), e (y + 1 + 1 + 1 + 1 + 1) (by omega) (by omega), e (y + 1 + 1 + 1 + 1 + 1 + 1) (by omega) (by omega)]
  omega
theorem addV5 {Ω : Opq} (hΩ : Ω = std) {y : Int} (h0 : 0 ≤ y) (h1 : y ≤ 4611686018427387800) :
    Ω.ar .add .i64 (Ω.ar .add .i64 (Ω.ar .add .i64 (Ω.ar .add .i64 (Ω.ar .add .i64 y 1) 1) 1) 1) 1 = y + 5 := by
  have e := fun z h0 h1 => addV hΩ (y := z) h0 h1
  rw [e y h0 (by omega), e (y + 1) (by omega) (by omega), e (y + 1 + 1) (by omega) (by omega), e (y + 1 + 1 + 1) (by omega) (by omega), e (y + 1 + 1 + 1 + 1) (by omega) (by omega)]
  omega
/-- ys is xs but for what stands up to i. -/
structure Like (xs : List A) (i : Nat) (ys : List A) : Prop where
  len : ys.length = xs.length
  at' : ∀ q, i < q → ys[q]? = xs[q]?
theorem Like.set {Ω : Opq} (hΩ : Ω = std) {xs ys : List A} {i : Nat} {z : A} (h : Like xs i ys) : Like xs i (Ω.set ys (Ω.plus 0 (Ω.nat (Ω.int i))) z) := by
  subst hΩ
  show Like xs i (ys.set (0 + i) z)
  rw [Nat.zero_add]
  exact ⟨by simpa using h.len, fun q hq => by rw [List.getElem?_set_ne (by omega)]; exact h.at' q hq⟩
def psum {α : Type} (f : α → Nat) (d : List α) (i : Nat) : Nat := ((d.take i).map f).sum
theorem psum_at {α : Type} {f : α → Nat} {d : List α} {i : Nat} {c : α} (h : d[i]? = some c) : psum f d (i + 1) = psum f d i + f c := by
  unfold psum
  rw [List.take_add_one, h, List.map_append, List.sum_append]
  simp
theorem psum_zero {α : Type} {f : α → Nat} {d : List α} : psum f d 0 = 0 := by simp [psum]
theorem psum_const {α : Type} (m : Nat) (d : List α) : psum (fun _ => m) d d.length = m * d.length := by
  unfold psum
  rw [List.take_length]
  induction d with
  | nil => rfl
  | cons x d ih => simp only [List.map_cons, List.sum_cons, List.length_cons, ih]; rw [Nat.mul_succ]; omega
theorem setNA {Ω : Opq} (hΩ : Ω = std) {ys : List A} {j : Nat} {z : A} (h : ∀ y ∈ ys, vStore.isAggA y = false) (hz : vStore.isAggA z = false) : ∀ y ∈ Ω.set ys j z, vStore.isAggA y = false := by
  subst hΩ
  intro y hy
  rcases List.mem_or_eq_of_mem_set hy with hy | rfl
  · exact h y hy
  · exact hz
theorem psum_le {α : Type} {f : α → Nat} {d : List α} : ∀ (i : Nat), psum f d i ≤ psum f d d.length := by
  intro i
  unfold psum
  rw [List.take_length]
  conv => rhs; rw [← List.take_append_drop i d, List.map_append, List.sum_append]
  omega
theorem c_markStringS (cs : List (List UInt8)) (k : Int) (h0 : 0 ≤ k) (h1 : k + psum (fun _ => 1) cs cs.length ≤ 1099511627776) (hb : cs.length ≤ 1048576) : ECtr PP n_laws_markStringS [.sl true 1 (cs.map (str)), i64 k] (i64 (k + psum (fun _ => 1) cs cs.length)) := by
  obtain ⟨Ω, hΩ⟩ : ∃ Ω, Ω = std := ⟨_, rfl⟩
  obtain ⟨xs, hxs⟩ : ∃ xs, xs = cs.map (str) := ⟨_, rfl⟩
  have hlen : xs.length = cs.length := by rw [hxs, List.length_map]
  have hna : ∀ y ∈ xs, vStore.isAggA y = false := fun y hy => by rw [hxs] at hy; obtain ⟨c, _, rfl⟩ := List.mem_map.1 hy; rfl
  obtain ⟨kf, hkf⟩ : ∃ kf : Nat → Int, kf = fun i => k + psum (fun _ => 1) cs i := ⟨_, rfl⟩
  have hk0 : kf 0 = k := by rw [hkf]; simp [psum_zero]
  have hkn : kf cs.length = k + psum (fun _ => 1) cs cs.length := by rw [hkf]
  have hkp : ∀ i, 0 ≤ kf i ∧ kf i ≤ 1099511627776 := fun i => by rw [hkf]; have := psum_le (f := fun _ => 1) (d := cs) i; simp only; omega
  have hks : ∀ i c, cs[i]? = some c → kf (i + 1) = kf i + ((fun _ => 1) c : Nat) := fun i c h => by rw [hkf]; simp only; rw [psum_at h]; omega
  clear hkf
  rw [← hkn, ← hxs]
  have hle : Ω.len xs = xs.length := by subst hΩ; rfl
  have hc := c_markText
  have htab := tab
  have hmo := hmo
  refine ECtr.walk tab hΩ 3 fn_laws_markStringS rfl rfl ?_
  generalize PP = P at *
  cbv
  refine loopX htab hΩ (fun i : Nat × List A => ⟨[(0, .vw 0 0 (Ω.len xs)), (1, .sc (.int .i64 (kf i.1))), (5, .sc (.int .i64 (Ω.int i.1)))], 20, [some ⟨1, i.2, false⟩]⟩)
    (fun i => i.1 ≤ cs.length ∧ i.2.length = cs.length ∧ (∀ q, i.1 ≤ q → i.2[q]? = xs[q]?) ∧ (∀ y ∈ i.2, vStore.isAggA y = false)) (fun i => cs.length - i.1) (0, xs) ⟨Nat.zero_le _, hlen, fun _ _ => rfl, hna⟩ (Sbs.mk rfl rfl ⟨rfl, congrArg i64 hk0.symm, zeroI hΩ, trivial⟩) ?_
  rintro ⟨i, ys⟩ ⟨hi, hyl, hya, hyn⟩
  dsimp only at hi hyl hya hyn
  dsimp only
  have hki := hkp i
  have hki1 := hkp (i + 1)
  cbv
  refine br (fun h => ?_) (fun h => ?_) <;> cbv
  · replace h := ltI hΩ h
    obtain ⟨c, hcc⟩ := at_of (cs := cs) (by omega : i < cs.length)
    have hcm := List.mem_of_getElem? hcc
    have hkc := hks i c hcc
    have hlk : Like xs i ys := ⟨by omega, fun q hq => hya q (by omega)⟩
    have hyi : ys[i]? = some ((str) c) := by rw [hya i (Nat.le_refl _), hxs, List.getElem?_map, hcc]; rfl
    have hil : i < Ω.len xs := by rw [hle]; exact h
    replace hkc : kf (i + 1) = kf i + 1 := by simpa using hkc
    have hy1 := (addV hΩ hki.1 (by omega)).trans hkc.symm
    refine call_pure hΩ 3 (hc (kf i) (by omega)) rfl (fits _) rfl rfl ?_
    generalize markT (kf i) = mt
    cbv
    have hL := hlk.set hΩ (z := str mt)
    have hLl := hL.len
    refine ⟨⟨ixI hΩ hil⟩, ⟨by subst hΩ; show 0 + i < ys.length; omega, hyn⟩, (i + 1, Ω.set ys (Ω.plus 0 (Ω.nat (Ω.int i))) (str mt)), ⟨by dsimp only; omega, by dsimp only; omega, fun q hq => hL.at' q hq, setNA hΩ hyn rfl⟩, by dsimp only; omega,
      Sbs.mk rfl rfl ⟨rfl, congrArg i64 hy1, incI hΩ (by omega), trivial⟩⟩
  · have hj : i = cs.length := by have := geI hΩ h; omega
    subst hj
    exact .same
theorem c_markTermS (cs : List (Trm)) (k : Int) (h0 : 0 ≤ k) (h1 : k + psum (fun _ => 7) cs cs.length ≤ 1099511627776) (hb : cs.length ≤ 1048576) : ECtr PP n_laws_markTermS [.sl true 7 (cs.map (Trm.enc)), i64 k] (i64 (k + psum (fun _ => 7) cs cs.length)) := by
  obtain ⟨Ω, hΩ⟩ : ∃ Ω, Ω = std := ⟨_, rfl⟩
  obtain ⟨xs, hxs⟩ : ∃ xs, xs = cs.map (Trm.enc) := ⟨_, rfl⟩
  have hlen : xs.length = cs.length := by rw [hxs, List.length_map]
  have hna : ∀ y ∈ xs, True := fun y hy => by trivial
  obtain ⟨kf, hkf⟩ : ∃ kf : Nat → Int, kf = fun i => k + psum (fun _ => 7) cs i := ⟨_, rfl⟩
  have hk0 : kf 0 = k := by rw [hkf]; simp [psum_zero]
  have hkn : kf cs.length = k + psum (fun _ => 7) cs cs.length := by rw [hkf]
  have hkp : ∀ i, 0 ≤ kf i ∧ kf i ≤ 1099511627776 := fun i => by rw [hkf]; have := psum_le (f := fun _ => 7) (d := cs) i; simp only; omega
  have hks : ∀ i c, cs[i]? = some c → kf (i + 1) = kf i + ((fun _ => 7) c : Nat) := fun i c h => by rw [hkf]; simp only; rw [psum_at h]; omega
  clear hkf
  rw [← hkn, ← hxs]
  have hle : Ω.len xs = xs.length := by subst hΩ; rfl
  have hc := c_markText
  have htab := tab
  have hmo := hmo
  refine ECtr.walk tab hΩ 3 fn_laws_markTermS rfl rfl ?_
  generalize PP = P at *
  cbv
  refine loopX htab hΩ (fun i : Nat × List A => ⟨[(0, .vw 0 0 (Ω.len xs)), (1, .sc (.int .i64 (kf i.1))), (5, .sc (.int .i64 (Ω.int i.1)))], 69, [some ⟨7, i.2, false⟩]⟩)
    (fun i => i.1 ≤ cs.length ∧ i.2.length = cs.length ∧ (∀ q, i.1 ≤ q → i.2[q]? = xs[q]?)) (fun i => cs.length - i.1) (0, xs) ⟨Nat.zero_le _, hlen, fun _ _ => rfl⟩ (Sbs.mk rfl rfl ⟨rfl, congrArg i64 hk0.symm, zeroI hΩ, trivial⟩) ?_
  rintro ⟨i, ys⟩ ⟨hi, hyl, hya⟩
  dsimp only at hi hyl hya
  dsimp only
  have hki := hkp i
  have hki1 := hkp (i + 1)
  cbv
  refine br (fun h => ?_) (fun h => ?_) <;> cbv
  · replace h := ltI hΩ h
    obtain ⟨c, hcc⟩ := at_of (cs := cs) (by omega : i < cs.length)
    have hcm := List.mem_of_getElem? hcc
    have hkc := hks i c hcc
    have hlk : Like xs i ys := ⟨by omega, fun q hq => hya q (by omega)⟩
    have hyi : ys[i]? = some ((Trm.enc) c) := by rw [hya i (Nat.le_refl _), hxs, List.getElem?_map, hcc]; rfl
    have hil : i < Ω.len xs := by rw [hle]; exact h
    replace hkc : kf (i + 1) = kf i + 7 := by simpa using hkc
    have hy1 := (addV7 hΩ hki.1 (by omega)).trans hkc.symm
    have hlt : i < ys.length := by omega
    refine call_pure hΩ 3 (hc (kf i) (by omega)) rfl (fits _) rfl rfl ?_
    generalize markT (kf i) = mt
    cbv
    refine ⟨⟨ixI hΩ hil⟩, _, atI hΩ hyi, ?_⟩
    cbv
    refine ⟨⟨ixI hΩ hil⟩, _, setI hΩ hlt, ?_⟩
    cbv
    refine ⟨⟨ixI hΩ hil⟩, _, setI hΩ (setI_lt hΩ hlt), ?_⟩
    cbv
    refine ⟨⟨ixI hΩ hil⟩, _, setI hΩ (setI_lt hΩ (setI_lt hΩ hlt)), ?_⟩
    cbv
    refine ⟨⟨ixI hΩ hil⟩, _, setI hΩ (setI_lt hΩ (setI_lt hΩ (setI_lt hΩ hlt))), ?_⟩
    cbv
    refine ⟨⟨ixI hΩ hil⟩, _, setI hΩ (setI_lt hΩ (setI_lt hΩ (setI_lt hΩ (setI_lt hΩ hlt)))), ?_⟩
    cbv
    refine ⟨⟨ixI hΩ hil⟩, _, setI hΩ (setI_lt hΩ (setI_lt hΩ (setI_lt hΩ (setI_lt hΩ (setI_lt hΩ hlt))))), ?_⟩
    cbv
    refine ⟨(i + 1, _), ⟨?pa, ?pb, ?pc⟩, ?pd, Sbs.mk rfl rfl ⟨rfl, congrArg i64 hy1, incI hΩ (by omega), trivial⟩⟩
    case pa => dsimp only; omega
    case pd => dsimp only; omega
    case pb => exact (((((((hlk.set hΩ).set hΩ).set hΩ).set hΩ).set hΩ).set hΩ).set hΩ).len.trans hlen
    case pc => exact fun q hq => (((((((hlk.set hΩ).set hΩ).set hΩ).set hΩ).set hΩ).set hΩ).set hΩ).at' q hq
  · have hj : i = cs.length := by have := geI hΩ h; omega
    subst hj
    exact .same
theorem c_markTermSS (cs : List (List Trm)) (k : Int) (h0 : 0 ≤ k) (h1 : k + psum (fun l => 7 * l.length) cs cs.length ≤ 1099511627776) (hb : cs.length ≤ 1048576) (hl : ∀ l ∈ cs, l.length ≤ 1048576) : ECtr PP n_laws_markTermSS [.sl true 1 (cs.map (encTs true)), i64 k] (i64 (k + psum (fun l => 7 * l.length) cs cs.length)) := by
  obtain ⟨Ω, hΩ⟩ : ∃ Ω, Ω = std := ⟨_, rfl⟩
  obtain ⟨xs, hxs⟩ : ∃ xs, xs = cs.map (encTs true) := ⟨_, rfl⟩
  have hlen : xs.length = cs.length := by rw [hxs, List.length_map]
  have hna : ∀ y ∈ xs, vStore.isAggA y = false := fun y hy => by rw [hxs] at hy; obtain ⟨c, _, rfl⟩ := List.mem_map.1 hy; rfl
  obtain ⟨kf, hkf⟩ : ∃ kf : Nat → Int, kf = fun i => k + psum (fun l => 7 * l.length) cs i := ⟨_, rfl⟩
  have hk0 : kf 0 = k := by rw [hkf]; simp [psum_zero]
  have hkn : kf cs.length = k + psum (fun l => 7 * l.length) cs cs.length := by rw [hkf]
  have hkp : ∀ i, 0 ≤ kf i ∧ kf i ≤ 1099511627776 := fun i => by rw [hkf]; have := psum_le (f := fun l => 7 * l.length) (d := cs) i; simp only; omega
  have hks : ∀ i c, cs[i]? = some c → kf (i + 1) = kf i + ((fun l => 7 * l.length) c : Nat) := fun i c h => by rw [hkf]; simp only; rw [psum_at h]; omega
  clear hkf
  rw [← hkn, ← hxs]
  have hle : Ω.len xs = xs.length := by subst hΩ; rfl
  have hc := c_markText
  have hmT := c_markTermS
  have htab := tab
  have hmo := hmo
  refine ECtr.walk tab hΩ 3 fn_laws_markTermSS rfl rfl ?_
  generalize PP = P at *
  cbv
  refine loopX htab hΩ (fun i : Nat × List A => ⟨[(0, .vw 0 0 (Ω.len xs)), (1, .sc (.int .i64 (kf i.1))), (5, .sc (.int .i64 (Ω.int i.1)))], 19, [some ⟨1, i.2, false⟩]⟩)
    (fun i => i.1 ≤ cs.length ∧ i.2.length = cs.length ∧ (∀ q, i.1 ≤ q → i.2[q]? = xs[q]?) ∧ (∀ y ∈ i.2, vStore.isAggA y = false)) (fun i => cs.length - i.1) (0, xs) ⟨Nat.zero_le _, hlen, fun _ _ => rfl, hna⟩ (Sbs.mk rfl rfl ⟨rfl, congrArg i64 hk0.symm, zeroI hΩ, trivial⟩) ?_
  rintro ⟨i, ys⟩ ⟨hi, hyl, hya, hyn⟩
  dsimp only at hi hyl hya hyn
  dsimp only
  have hki := hkp i
  have hki1 := hkp (i + 1)
  cbv
  refine br (fun h => ?_) (fun h => ?_) <;> cbv
  · replace h := ltI hΩ h
    obtain ⟨c, hcc⟩ := at_of (cs := cs) (by omega : i < cs.length)
    have hcm := List.mem_of_getElem? hcc
    have hkc := hks i c hcc
    have hlk : Like xs i ys := ⟨by omega, fun q hq => hya q (by omega)⟩
    have hyi : ys[i]? = some ((encTs true) c) := by rw [hya i (Nat.le_refl _), hxs, List.getElem?_map, hcc]; rfl
    have hil : i < Ω.len xs := by rw [hle]; exact h
    obtain ⟨ts, hen, hts⟩ : ∃ ts, encTs true c = .sl true 7 ts ∧ ts = c.map Trm.enc := ⟨_, rfl, rfl⟩
    replace hkc : kf (i + 1) = kf i + (7 * c.length : Nat) := hkc
    have hm := hmT c (kf i) hki.1 (by rw [psum_const]; show kf i + ((7 * c.length : Nat) : Int) ≤ _; omega) (hl c hcm)
    rw [psum_const, ← hkc, ← hts] at hm
    refine ⟨⟨ixI hΩ hil⟩, _, (atI hΩ hyi).trans (congrArg some hen), ?_⟩
    cbv
    refine call_eat2 (row := ⟨7, ts, false⟩) hΩ 3 hm rfl rfl (by subst hΩ; rfl) rfl (fits _) rfl rfl ?_
    cbv
    have hL := hlk.set hΩ (z := .un)
    have hLl := hL.len
    exact ⟨(i + 1, Ω.set ys (Ω.plus 0 (Ω.nat (Ω.int i))) .un), ⟨by dsimp only; omega, by dsimp only; omega, fun q hq => hL.at' q hq, setNA hΩ hyn rfl⟩, by dsimp only; omega,
      Sbs.trans (Sbs.lastN (rows := [_]) rfl) (Sbs.mk rfl rfl ⟨rfl, rfl, incI hΩ (by omega), trivial⟩)⟩
  · have hj : i = cs.length := by have := geI hΩ h; omega
    subst hj
    exact .same
/-- How many marks a package takes. -/
def Pck.cnt (o : Pck) : Nat := 5 + psum (fun _ => 1) o.p o.p.length + psum (fun l : List Trm => 7 * l.length) o.d o.d.length + psum (fun _ => 7) o.b o.b.length
theorem cnt_split {y z : Int} {o : Pck} (h : z = y + (o.cnt : Nat)) : ∃ y1 y2 y3 : Int, y1 = y + 5 ∧ y2 = y1 + (psum (fun _ => 1) o.p o.p.length : Nat) ∧ y3 = y2 + (psum (fun l : List Trm => 7 * l.length) o.d o.d.length : Nat) ∧ z = y3 + (psum (fun _ => 7) o.b o.b.length : Nat) ∧ y ≤ y1 ∧ y1 ≤ y2 ∧ y2 ≤ y3 ∧ y3 ≤ z :=
  ⟨_, _, _, rfl, rfl, rfl, by rw [h]; unfold Pck.cnt; omega, by omega, by omega, by omega, by rw [h]; unfold Pck.cnt; omega⟩
theorem c_markPackS (cs : List (Pck)) (k : Int) (h0 : 0 ≤ k) (h1 : k + psum (Pck.cnt) cs cs.length ≤ 1099511627776) (hb : cs.length ≤ 1048576) (hl : ∀ l ∈ cs, l.Small) : ECtr PP n_laws_markPackS [.sl true 8 (cs.map (Pck.enc true)), i64 k] (i64 (k + psum (Pck.cnt) cs cs.length)) := by
  obtain ⟨Ω, hΩ⟩ : ∃ Ω, Ω = std := ⟨_, rfl⟩
  obtain ⟨xs, hxs⟩ : ∃ xs, xs = cs.map (Pck.enc true) := ⟨_, rfl⟩
  have hlen : xs.length = cs.length := by rw [hxs, List.length_map]
  have hna : ∀ y ∈ xs, True := fun y hy => by trivial
  obtain ⟨kf, hkf⟩ : ∃ kf : Nat → Int, kf = fun i => k + psum (Pck.cnt) cs i := ⟨_, rfl⟩
  have hk0 : kf 0 = k := by rw [hkf]; simp [psum_zero]
  have hkn : kf cs.length = k + psum (Pck.cnt) cs cs.length := by rw [hkf]
  have hkp : ∀ i, 0 ≤ kf i ∧ kf i ≤ 1099511627776 := fun i => by rw [hkf]; have := psum_le (f := Pck.cnt) (d := cs) i; simp only; omega
  have hks : ∀ i c, cs[i]? = some c → kf (i + 1) = kf i + ((Pck.cnt) c : Nat) := fun i c h => by rw [hkf]; simp only; rw [psum_at h]; omega
  clear hkf
  rw [← hkn, ← hxs]
  have hle : Ω.len xs = xs.length := by subst hΩ; rfl
  have hc := c_markText
  have hcl : ∀ i c, cs[i]? = some c → ∃ y1 y2 y3 : Int, kf i + 5 = y1 ∧ ECtr PP n_laws_markStringS [.sl true 1 (c.p.map str), i64 y1] (i64 y2) ∧ ECtr PP n_laws_markTermSS [.sl true 1 (c.d.map (encTs true)), i64 y2] (i64 y3) ∧ ECtr PP n_laws_markTermS [.sl true 7 (c.b.map Trm.enc), i64 y3] (i64 (kf (i + 1))) := fun i c h => by
    obtain ⟨y1, y2, y3, hy1, hy2, hy3, hy4, hb1, hb2, hb3, hb4⟩ := cnt_split (hks i c h)
    have hsm := hl c (List.mem_of_getElem? h)
    have hki := hkp i
    have hki1 := hkp (i + 1)
    have hmp := c_markStringS c.p y1 (by omega) (by omega) hsm.p
    have hmd := c_markTermSS c.d y2 (by omega) (by omega) hsm.d hsm.e
    have hmb := c_markTermS c.b y3 (by omega) (by omega) hsm.b
    rw [← hy2] at hmp
    rw [← hy3] at hmd
    rw [← hy4] at hmb
    exact ⟨y1, y2, y3, hy1.symm, hmp, hmd, hmb⟩
  have htab := tab
  have hmo := hmo
  refine ECtr.walk tab hΩ 3 fn_laws_markPackS rfl rfl ?_
  generalize PP = P at *
  cbv
  refine loopX htab hΩ (fun i : Nat × List A => ⟨[(0, .vw 0 0 (Ω.len xs)), (1, .sc (.int .i64 (kf i.1))), (5, .sc (.int .i64 (Ω.int i.1)))], 73, [some ⟨8, i.2, false⟩]⟩)
    (fun i => i.1 ≤ cs.length ∧ i.2.length = cs.length ∧ (∀ q, i.1 ≤ q → i.2[q]? = xs[q]?)) (fun i => cs.length - i.1) (0, xs) ⟨Nat.zero_le _, hlen, fun _ _ => rfl⟩ (Sbs.mk rfl rfl ⟨rfl, congrArg i64 hk0.symm, zeroI hΩ, trivial⟩) ?_
  rintro ⟨i, ys⟩ ⟨hi, hyl, hya⟩
  dsimp only at hi hyl hya
  dsimp only
  have hki := hkp i
  have hki1 := hkp (i + 1)
  cbv
  refine br (fun h => ?_) (fun h => ?_) <;> cbv
  · replace h := ltI hΩ h
    obtain ⟨c, hcc⟩ := at_of (cs := cs) (by omega : i < cs.length)
    have hcm := List.mem_of_getElem? hcc
    have hkc := hks i c hcc
    have hlk : Like xs i ys := ⟨by omega, fun q hq => hya q (by omega)⟩
    have hyi : ys[i]? = some ((Pck.enc true) c) := by rw [hya i (Nat.le_refl _), hxs, List.getElem?_map, hcc]; rfl
    have hil : i < Ω.len xs := by rw [hle]; exact h
    obtain ⟨y1, y2, y3, hy1, hmp, hmd, hmb⟩ := hcl i c hcc
    have hlt : i < ys.length := by omega
    have hy1' := (addV5 hΩ hki.1 (by omega)).trans hy1
    refine call_pure hΩ 3 (hc (kf i) (by omega)) rfl (fits _) rfl rfl ?_
    generalize markT (kf i) = mt
    obtain ⟨ps, ds, bs, hen, hps, hds, hbs⟩ := enc_own c
    rw [← hps] at hmp
    rw [← hds] at hmd
    rw [← hbs] at hmb
    cbv
    refine ⟨⟨ixI hΩ hil⟩, _, (atI hΩ hyi).trans (congrArg some hen), ?_⟩
    cbv
    refine ⟨⟨ixI hΩ hil⟩, _, setI hΩ hlt, ?_⟩
    cbv
    refine ⟨⟨ixI hΩ hil⟩, _, setI hΩ (setI_lt hΩ hlt), ?_⟩
    cbv
    refine ⟨⟨ixI hΩ hil⟩, _, setI hΩ (setI_lt hΩ (setI_lt hΩ hlt)), ?_⟩
    cbv
    refine ⟨⟨ixI hΩ hil⟩, _, setI hΩ (setI_lt hΩ (setI_lt hΩ (setI_lt hΩ hlt))), ?_⟩
    cbv
    refine ⟨⟨ixI hΩ hil⟩, _, setI hΩ (setI_lt hΩ (setI_lt hΩ (setI_lt hΩ (setI_lt hΩ hlt)))), ?_⟩
    cbv
    refine call_eat2 (row := ⟨1, ps, false⟩) hΩ 3 hmp rfl rfl (by subst hΩ; rfl) rfl (fitsE (congrArg (fun z => [i64 z]) hy1')) rfl rfl ?_
    cbv
    refine ⟨⟨ixI hΩ hil⟩, _, setI hΩ (setI_lt hΩ (setI_lt hΩ (setI_lt hΩ (setI_lt hΩ (setI_lt hΩ hlt))))), ?_⟩
    cbv
    refine call_eat2 (row := ⟨1, ds, false⟩) hΩ 3 hmd rfl rfl (by subst hΩ; rfl) rfl (fits _) rfl rfl ?_
    cbv
    refine ⟨⟨ixI hΩ hil⟩, _, setI hΩ (setI_lt hΩ (setI_lt hΩ (setI_lt hΩ (setI_lt hΩ (setI_lt hΩ (setI_lt hΩ hlt)))))), ?_⟩
    cbv
    refine call_eat2 (row := ⟨7, bs, false⟩) hΩ 3 hmb rfl rfl (by subst hΩ; rfl) rfl (fits _) rfl rfl ?_
    cbv
    refine ⟨(i + 1, _), ⟨?pa, ?pb, ?pc⟩, ?pd, Sbs.trans (Sbs.lastN (rows := [_, none, none]) rfl) (Sbs.trans (Sbs.lastN (rows := [_, none]) rfl) (Sbs.trans (Sbs.lastN (rows := [_]) rfl) (Sbs.mk rfl rfl ⟨rfl, rfl, incI hΩ (by omega), trivial⟩)))⟩
    case pa => dsimp only; omega
    case pd => dsimp only; omega
    case pb => exact ((((((((hlk.set hΩ).set hΩ).set hΩ).set hΩ).set hΩ).set hΩ).set hΩ).set hΩ).len.trans hlen
    case pc => exact fun q hq => ((((((((hlk.set hΩ).set hΩ).set hΩ).set hΩ).set hΩ).set hΩ).set hΩ).set hΩ).at' q hq

  · have hj : i = cs.length := by have := geI hΩ h; omega
    subst hj
    exact .same
end Go.Proofs.YtdngjnjapihbkaaGreat

/- Walks: numbers are marked and held. Plain theorems. -/
set_option linter.unusedVariables false
set_option linter.unusedSimpArgs false
namespace Go.Proofs.YtdngjnjapihbkaaGreat
open Go Go.Fw
set_option maxRecDepth 100000
theorem neSame {Ω : Opq} (hΩ : Ω = std) {x y : Int} (h : Ω.cmp .neq x y = true) (e : x = y) : False := by subst hΩ; exact ne_t h e
theorem mutVw {S : State} {r len n : Nat} {ys zs : List A} (hr : Fw.rowAt S.rows r = some ⟨n, ys, false⟩) (hl : len = ys.length) (hl' : zs.length = ys.length) : Mut S (.vw r 0 len) (.sl true n ys) (.sl true n zs) [(r, zs)] := .row hr rfl hl hl'
theorem rdJ {Ω : Opq} (hΩ : Ω = std) {i : Nat} {xs : List A} {z : A} (h : xs[i]? = some z) : xs[(Ω.int i).toNat]? = some z := by subst hΩ; exact h
theorem takeI {Ω : Opq} (hΩ : Ω = std) {i : Nat} {xs : List A} (h : xs.length = i) : Ω.take i xs = xs := by subst hΩ; subst h; exact List.take_length
/-- The marks from k on. -/
def marksI (k : Int) (n : Nat) : List A := (List.range n).map fun i : Nat => i64 (k + i)
theorem marksI_at {k : Int} {n i : Nat} (h : i < n) : (marksI k n)[i]? = some (i64 (k + i)) := by
  unfold marksI
  rw [List.getElem?_map, List.getElem?_range h]; rfl
theorem marksI_length (k : Int) (n : Nat) : (marksI k n).length = n := by simp [marksI]
theorem marksI_frz (k : Int) (n : Nat) : (marksI k n).map frz = marksI k n := by
  unfold marksI
  rw [List.map_map]; exact List.map_congr_left fun c _ => rfl
theorem marksI_na (k : Int) (n : Nat) : ∀ y ∈ marksI k n, vStore.isAggA y = false := fun y hy => by
  obtain ⟨c, _, rfl⟩ := List.mem_map.1 hy; rfl
/-- The first i ones are marked. -/
def halfA (ms xs : List A) (i : Nat) : List A := ms.take i ++ xs.drop i
theorem halfA_set {ms xs : List A} {i : Nat} {m : A} (hl : ms.length = xs.length) (h : ms[i]? = some m) : (halfA ms xs i).set i m = halfA ms xs (i + 1) := by
  have hi := (List.getElem?_eq_some_iff.1 h).1
  unfold halfA
  rw [List.take_add_one, h, List.set_append]
  have e : xs.drop i = xs[i] :: xs.drop (i + 1) := List.drop_eq_getElem_cons (by omega)
  rw [e]
  simp only [List.length_take, Nat.min_eq_left (Nat.le_of_lt hi), Nat.lt_irrefl, if_false, Nat.sub_self, List.set_cons_zero]
  simp
theorem halfA_length {ms xs : List A} {i : Nat} (hl : ms.length = xs.length) (hi : i ≤ xs.length) : (halfA ms xs i).length = xs.length := by simp [halfA]; omega
theorem halfA_na {ms xs : List A} {i : Nat} (h1 : ∀ y ∈ ms, vStore.isAggA y = false) (h2 : ∀ y ∈ xs, vStore.isAggA y = false) : ∀ y ∈ halfA ms xs i, vStore.isAggA y = false := fun y hy => by
  rcases List.mem_append.1 hy with h | h
  · exact h1 y (List.mem_of_mem_take h)
  · exact h2 y (List.mem_of_mem_drop h)
theorem c_markInt64S (cs : List Int) (k : Int) (h0 : 0 ≤ k) (h1 : k ≤ 2199023255552) (hb : cs.length ≤ 1048576) :
    MCtr PP n_laws_markInt64S [.sl true 1 (cs.map i64), i64 k] (i64 (k + cs.length)) [.sl true 1 (marksI k cs.length), i64 k] := by
  obtain ⟨Ω, hΩ⟩ : ∃ Ω, Ω = std := ⟨_, rfl⟩
  obtain ⟨n, hn⟩ : ∃ n, n = cs.length := ⟨_, rfl⟩
  obtain ⟨ms, hms⟩ : ∃ ms, ms = marksI k n := ⟨_, rfl⟩
  obtain ⟨xs, hxs⟩ : ∃ xs, xs = cs.map i64 := ⟨_, rfl⟩
  have hlen : xs.length = n := by rw [hxs, hn, List.length_map]
  have hml : ms.length = xs.length := by rw [hms, marksI_length, hlen]
  obtain ⟨ys, hys⟩ : ∃ ys, ys = halfA ms xs := ⟨_, rfl⟩
  have hyl : ∀ i, i ≤ n → (ys i).length = n := fun i hi => by rw [hys, halfA_length hml (by omega)]; exact hlen
  have hyn : ∀ i, ∀ y ∈ ys i, vStore.isAggA y = false := fun i => by rw [hys, hms, hxs]; exact halfA_na (marksI_na _ _) fun y hy => by obtain ⟨c, _, rfl⟩ := List.mem_map.1 hy; rfl
  have hx0 : xs = ys 0 := by rw [hys]; rfl
  obtain ⟨kf, hk0, hkn, hkb, hks, hkm⟩ : ∃ kf : Nat → Int, kf 0 = k ∧ kf n = k + n ∧ (∀ i, i ≤ n → 0 ≤ kf i ∧ kf i ≤ 2199024304128) ∧ (∀ i, kf (i + 1) = kf i + 1) ∧ (∀ i, i < n → ms[i]? = some (i64 (kf i))) :=
    ⟨fun i => k + i, by simp, rfl, fun i hi => by simp only; omega, fun i => by simp only; omega, fun i hi => by rw [hms]; exact marksI_at hi⟩
  have hset : ∀ i, i < n → (ys i).set i (i64 (kf i)) = ys (i + 1) := fun i hi => by rw [hys]; exact halfA_set hml (hkm i hi)
  have hzn : ms = ys n := by rw [hys, halfA, ← hlen, ← hml, List.take_length, hml, List.drop_length, List.append_nil]
  clear hkm hys
  rw [← hxs, ← hn, ← hms, hzn, ← hkn]
  have htab := tab
  refine MCtr.walkO tab hΩ 3 fn_laws_markInt64S rfl rfl rfl ?_
  have hlo : Ω.len xs = n := by subst hΩ; exact hlen
  generalize PP = P at *
  cbv
  refine loopX htab hΩ (fun i : Nat => ⟨[(0, .vw 0 0 n), (1, .sc (.int .i64 (kf i))), (5, .sc (.int .i64 (Ω.int i))), (19, .vw 0 0 n), (20, .sc (.int .i64 k))], 19, [some ⟨1, ys i, false⟩]⟩) (fun i => i ≤ n) (fun i => n - i) 0 (Nat.zero_le _)
    (Sbs.mk rfl (by rw [← hx0]) ⟨congrArg (A.vw 0 0) hlo, congrArg i64 hk0.symm, zeroI hΩ, congrArg (A.vw 0 0) hlo, rfl, trivial⟩) (fun i hi => ?_)
  have hyli := hyl i hi
  have hyni := hyn i
  have hkbi := hkb i hi
  have hse := hset i
  have hks1 := hks i
  cbv
  refine br (fun h => ?_) (fun h => ?_) <;> cbv
  · replace h : i < n := by have := ltN hΩ h; omega
    refine ⟨⟨ixI hΩ h⟩, ⟨by subst hΩ; show 0 + i < (ys i).length; omega, hyni⟩, i + 1, by omega, by omega, Sbs.mk rfl ?_ ⟨rfl, congrArg i64 ((addV hΩ hkbi.1 (by omega)).trans hks1.symm), incI hΩ (by omega), rfl, rfl, trivial⟩⟩
    rw [← hse h]
    subst hΩ
    show [some (Row.mk 1 ((ys i).set (0 + i) _) false)] = _
    rw [Nat.zero_add]
    rfl
  · replace h : i = n := by have := geN hΩ h; omega
    subst h
    exact ⟨⟨rfl, Nat.le_of_eq (hyl i hi).symm⟩, .same, .of (congrArg (fun z => [A.sl true 1 z, i64 k]) (takeI hΩ (hyl i hi)))⟩
theorem c_markSetResult (a b : Int) (cs : List Int) (k : Int) (h0 : 0 ≤ k) (h1 : k ≤ 2199023255552) (hb : cs.length ≤ 1048576) :
    MCtr PP n_laws_markSetResult [.agg [i64 a, i64 b, .sl true 1 (cs.map i64)], i64 k] (i64 (k + cs.length)) [.agg [i64 a, i64 b, .sl true 1 (marksI k cs.length)], i64 k] := by
  obtain ⟨Ω, hΩ⟩ : ∃ Ω, Ω = std := ⟨_, rfl⟩
  have h := c_markInt64S cs k h0 h1 hb
  have hml : (marksI k cs.length).length = (cs.map i64).length := by rw [marksI_length, List.length_map]
  generalize marksI k cs.length = ms at *
  generalize cs.map i64 = xs at *
  generalize k + (cs.length : Int) = kk at *
  have hl : Ω.len xs = xs.length := by subst hΩ; rfl
  have hlm : Ω.len xs = ms.length := by omega
  have htab := tab
  refine MCtr.walkO tab hΩ 3 fn_laws_markSetResult rfl rfl rfl ?_
  generalize PP = P at *
  cbv
  refine call_mut hΩ 3 (l := [(0, ms)] ++ ([] ++ [])) h (.cons (mutVw rfl hl hml) (.cons (.data rfl rfl) .nil)) (by simp) rfl ?_
  cbv
  exact ⟨⟨rfl, Nat.le_of_eq hlm⟩, .same, .of (congrArg (fun z => [A.agg [i64 a, i64 b, A.sl true 1 z], i64 k]) (takeI hΩ hlm.symm))⟩
theorem c_heldInt64S (n : Nat) (k : Int) (h0 : 0 ≤ k) (h1 : k ≤ 2199023255552) (hb : n ≤ 1048576) :
    PCtr PP n_laws_heldInt64S [.sl false 1 (marksI k n), i64 k] (i64 (k + n)) := by
  obtain ⟨Ω, hΩ⟩ : ∃ Ω, Ω = std := ⟨_, rfl⟩
  obtain ⟨ms, hms⟩ : ∃ ms, ms = marksI k n := ⟨_, rfl⟩
  have hml : ms.length = n := by rw [hms, marksI_length]
  obtain ⟨kf, hk0, hkn, hkb, hks, hkm⟩ : ∃ kf : Nat → Int, kf 0 = k ∧ kf n = k + n ∧ (∀ i, i ≤ n → 0 ≤ kf i ∧ kf i ≤ 2199024304128) ∧ (∀ i, kf (i + 1) = kf i + 1) ∧ (∀ i, i < n → ms[i]? = some (i64 (kf i))) :=
    ⟨fun i => k + i, by simp, rfl, fun i hi => by simp only; omega, fun i => by simp only; omega, fun i hi => by rw [hms]; exact marksI_at hi⟩
  rw [← hms, ← hkn]
  have htab := tab
  have hmo := hmo
  refine PCtr.walk tab hΩ fn_laws_heldInt64S rfl ?_
  generalize PP = P at *
  cbv
  refine loopX htab hΩ (fun i : Nat => ⟨[(0, .sl false 1 ms), (1, .sc (.int .i64 (kf i))), (5, .sc (.int .i64 (Ω.int i)))], 21, []⟩) (fun i => i ≤ n) (fun i => n - i) 0 (Nat.zero_le _)
    (Sbs.mk rfl rfl ⟨rfl, congrArg i64 hk0.symm, zeroI hΩ, trivial⟩) (fun i hi => ?_)
  have hkbi := hkb i hi
  have hks1 := hks i
  have hat := hkm i
  cbv
  refine br (fun h => ?_) (fun h => ?_) <;> cbv
  · replace h : i < n := by have := ltI hΩ h; omega
    refine ⟨⟨nnI hΩ⟩, _, rdJ hΩ (hat h), ?_⟩
    cbv
    refine br (fun h => (neSame hΩ h rfl).elim) (fun h => ?_)
    cbv
    exact ⟨i + 1, by omega, by omega, Sbs.mk rfl rfl ⟨rfl, congrArg i64 ((addV hΩ hkbi.1 (by omega)).trans hks1.symm), incI hΩ (by omega), trivial⟩⟩
  · replace h : i = n := by have := geI hΩ h; omega
    subst h
    exact .same
theorem c_heldSetResult (a b : Int) (n : Nat) (k : Int) (h0 : 0 ≤ k) (h1 : k ≤ 2199023255552) (hb : n ≤ 1048576) :
    PCtr PP n_laws_heldSetResult [.agg [i64 a, i64 b, .sl false 1 (marksI k n)], i64 k] (i64 (k + n)) := by
  obtain ⟨Ω, hΩ⟩ : ∃ Ω, Ω = std := ⟨_, rfl⟩
  have h := c_heldInt64S n k h0 h1 hb
  generalize marksI k n = ms at *
  obtain ⟨kk, hkk, hk0⟩ : ∃ kk : Int, kk = k + n ∧ 0 ≤ kk := ⟨_, rfl, by omega⟩
  rw [← hkk] at h ⊢
  clear hkk
  have htab := tab
  have hmo := hmo
  refine PCtr.walk tab hΩ fn_laws_heldSetResult rfl ?_
  generalize PP = P at *
  cbv
  refine call_pure hΩ 3 h rfl (fits _) rfl rfl ?_
  cbv
  refine br (fun h => absurd (ltI_t hΩ h) (Int.not_lt.2 hk0)) (fun h => ?_)
  cbv
  exact .same
end Go.Proofs.YtdngjnjapihbkaaGreat

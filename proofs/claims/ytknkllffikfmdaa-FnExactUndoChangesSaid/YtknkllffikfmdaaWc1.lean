/- Walks: changes: sizes, copies. Plain theorems. -/
import Derived.Test.YtknkllffikfmdaaWd
set_option linter.unusedVariables false
set_option linter.unusedSimpArgs false
namespace Go.Proofs.Ytknkllffikfmdaa
open Go Go.Fw
set_option maxRecDepth 100000
theorem c_szChange (c : Chg) (l : Int) : PCtr PP n_laws_szChange [c.enc, i64 l] (i64 (szStr c.n l)) := by
  obtain ⟨Ω, hΩ⟩ : ∃ Ω, Ω = std := ⟨_, rfl⟩
  obtain ⟨r, hr⟩ : ∃ r, r = szStr c.n l := ⟨_, rfl⟩
  rw [← hr]
  refine PCtr.walk tab hΩ fn_laws_szChange rfl ?_
  generalize PP = P at *
  cbv
  refine br (fun h => ?_) (fun h => ?_)
  · replace h : r = -1 := by subst hΩ; rw [hr, szStr]; exact if_pos (lt_t h)
    cbv
    exact .of (congrArg i64 h.symm)
  · replace h : r = IntKind.i64.wrap (l - c.n.length) := by subst hΩ; rw [hr, szStr]; exact if_neg (Int.not_lt.2 (lt_f h))
    cbv
    exact .of (by subst hΩ; exact congrArg i64 h.symm)
theorem c_szChangeS (cs : List Chg) (l : Int) (h0 : 0 ≤ l) (h1 : l ≤ 1048576) (hm : cs.length ≤ maxLen) : PCtr PP n_laws_szChangeS [.sl false 8 (cs.map Chg.enc), i64 l] (i64 (szS (fun c => szStr c.n) cs l)) := by
  obtain ⟨Ω, hΩ⟩ : ∃ Ω, Ω = std := ⟨_, rfl⟩
  obtain ⟨r, hr⟩ : ∃ r, r = szS (fun (c : Chg) => szStr c.n) cs l := ⟨_, rfl⟩
  obtain ⟨xs, hxs⟩ : ∃ xs, xs = cs.map Chg.enc := ⟨_, rfl⟩
  have hlen : xs.length = cs.length := by rw [hxs, List.length_map]
  rw [← hxs, ← hr]
  have hc := c_szChange
  have htab := tab
  refine PCtr.walk tab hΩ fn_laws_szChangeS rfl ?_
  generalize PP = P at *
  cbv
  refine br (fun h => ?_) (fun h => ?_)
  · replace h : r = -1 := by
      subst hΩ
      have h : IntKind.i64.wrap (l - xs.length) < 0 := lt_t h
      rw [hlen, szw h0 h1 hm] at h
      rw [hr, szS, if_pos h]
    cbv
    exact .of (congrArg i64 h.symm)
  obtain ⟨l', hl', h, hr⟩ : ∃ l', IntKind.i64.wrap (l - xs.length) = l' ∧ (0 ≤ l' ∧ l' ≤ 1048576) ∧ r = szLoop (fun (c : Chg) => szStr c.n) cs l' := by
    subst hΩ
    have h : 0 ≤ IntKind.i64.wrap (l - xs.length) := lt_f h
    rw [hlen, szw h0 h1 hm] at h ⊢
    exact ⟨_, rfl, ⟨h, by omega⟩, by rw [hr, szS, if_neg (by omega)]⟩
  cbv
  refine loopX htab hΩ (fun i : Nat × Int => ⟨[(0, .sl false 8 xs), (1, .sc (.int .i64 i.2)), (5, .sc (.int .i64 (Ω.int i.1)))], 27, []⟩) (fun i => i.1 ≤ cs.length ∧ 0 ≤ i.2 ∧ r = szLoop (fun (c : Chg) => szStr c.n) (cs.drop i.1) i.2)
    (fun i => cs.length - i.1) (0, l') ⟨Nat.zero_le _, h.1, hr⟩ (Sbs.mk rfl rfl ⟨rfl, by subst hΩ; exact congrArg i64 hl', by subst hΩ; rfl, trivial⟩) ?_
  rintro ⟨i, y⟩ ⟨hi, hy, he⟩
  dsimp only at hi hy he
  cbv
  refine br (fun h => ?_) (fun h => ?_)
  · replace h : i < cs.length := by subst hΩ; have h : (i : Int) < xs.length := lt_t h; omega
    obtain ⟨c, hcc⟩ : ∃ c, cs[i]? = some c := ⟨_, List.getElem?_eq_getElem (by omega)⟩
    rw [szLoop_at _ hcc] at he
    cbv
    refine ⟨⟨by subst hΩ; exact Int.natCast_nonneg i⟩, c.enc, by subst hΩ; show xs[i]? = _; rw [hxs, List.getElem?_map, hcc]; rfl, ?_⟩
    cbv
    have hcc' := hc c y
    generalize szStr c.n y = y' at he hcc'
    refine ⟨CallOK_pure (k := 3) hcc' rfl (fits _) (by cbv) (by cbv) ?_⟩
    cbv
    refine br (fun h => ?_) (fun h => ?_)
    · replace h : y' < 0 := by subst hΩ; exact lt_t h
      cbv
      exact .of (congrArg i64 (by rw [he, if_pos h]))
    · replace h : 0 ≤ y' := by subst hΩ; exact lt_f h
      cbv
      refine ⟨(i + 1, y'), ⟨by dsimp only; omega, h, by rw [he, if_neg (by omega)]⟩, by dsimp only; omega, Sbs.mk rfl rfl ⟨rfl, rfl, by subst hΩ; exact congrArg i64 (inc64 (n := i) (by simp only [maxLen] at hm; omega)), trivial⟩⟩
  · replace h : i = cs.length := by subst hΩ; have h : (xs.length : Int) ≤ i := lt_f h; omega
    subst h
    cbv
    exact .of (congrArg i64 (by rw [he, List.drop_length]; rfl))
theorem c_toVersion (v : Ver) : PCtr PP n_laws_toVersion [v.enc] v.enc := by
  obtain ⟨Ω, hΩ⟩ : ∃ Ω, Ω = std := ⟨_, rfl⟩
  refine PCtr.walk tab hΩ fn_laws_toVersion rfl ?_
  generalize PP = P
  cbv
  exact .same
theorem c_toChange (v : Chg) : PCtr PP n_laws_toChange [v.enc] v.enc := by
  obtain ⟨Ω, hΩ⟩ : ∃ Ω, Ω = std := ⟨_, rfl⟩
  refine PCtr.walk tab hΩ fn_laws_toChange rfl ?_
  have hc := c_toVersion
  generalize PP = P at *
  cbv
  refine ⟨CallOK_pure (k := 3) (hc v.o) rfl (fits _) (by cbv) (by cbv) ?_⟩
  cbv
  refine ⟨CallOK_pure (k := 3) (hc v.w) rfl (fits _) (by cbv) (by cbv) ?_⟩
  cbv
  exact .same
/-- A slice that is filled from the left. -/
def fill {α : Type} (f : α → A) (z : A) (cs : List α) (i : Nat) : List A := (cs.take i).map f ++ List.replicate (cs.length - i) z
theorem fill_set {α : Type} {f : α → A} {z : A} {cs : List α} {i : Nat} {c : α} (hc : cs[i]? = some c) : (fill f z cs i).set i (f c) = fill f z cs (i + 1) := by
  have hi : i < cs.length := (List.getElem?_eq_some_iff.1 hc).1
  unfold fill
  rw [List.take_add_one, hc, List.map_append, List.set_append]
  have e : cs.length - i = (cs.length - (i + 1)) + 1 := by omega
  simp [e, List.replicate_succ, Nat.min_eq_left (Nat.le_of_lt hi)]
theorem fill_length {α : Type} {f : α → A} {z : A} {cs : List α} {i : Nat} (hi : i ≤ cs.length) : (fill f z cs i).length = cs.length := by simp [fill]; omega
theorem fill_all {α : Type} {f : α → A} {z : A} {cs : List α} {i : Nat} {p : A → Prop} (h1 : ∀ c, p (f c)) (h2 : p z) : ∀ y ∈ fill f z cs i, p y := by
  intro y hy
  rcases List.mem_append.1 hy with hy | hy
  · obtain ⟨c, _, rfl⟩ := List.mem_map.1 hy; exact h1 c
  · rw [(List.mem_replicate.1 hy).2]; exact h2
theorem fill_zero {α : Type} {f : α → A} {z : A} {cs : List α} : fill f z cs 0 = List.replicate cs.length z := by simp [fill]
theorem fill_full {α : Type} {f : α → A} {z : A} {cs : List α} : fill f z cs cs.length = cs.map f := by simp [fill]
theorem c_toChangeS (cs : List Chg) (hb : cs.length ≤ 1048576) : PCtr PP n_laws_toChangeS [.sl false 8 (cs.map Chg.enc)] (.sl true 8 (cs.map Chg.enc)) := by
  obtain ⟨Ω, hΩ⟩ : ∃ Ω, Ω = std := ⟨_, rfl⟩
  obtain ⟨xs, hxs⟩ : ∃ xs, xs = cs.map Chg.enc := ⟨_, rfl⟩
  obtain ⟨n, hn⟩ : ∃ n, n = cs.length := ⟨_, rfl⟩
  have hlen : xs.length = n := by rw [hxs, hn, List.length_map]
  obtain ⟨ys, hys⟩ : ∃ ys : Nat → List A, ys = fill Chg.enc Chg.zero.enc cs := ⟨_, rfl⟩
  rw [← hxs]
  have hc := c_toChange
  refine PCtr.walk tab hΩ fn_laws_toChangeS rfl ?_
  have htab := tab
  generalize PP = P at *
  cbv
  refine ⟨⟨by subst hΩ; show _ ∧ (0 : Int) ≤ xs.length ∧ 72 * ((xs.length : Int).toNat) ≤ _ ∧ (xs.length : Int).toNat ≤ 9223372036854775807; rw [hlen]; refine ⟨rfl, ?_, ?_, ?_⟩ <;> omega⟩,
    loopX htab hΩ (fun i : Nat => ⟨[(0, .sl false 8 xs), (3, .vw 0 0 n), (4, .sc (.int .i64 (Ω.int i)))], 23, [some ⟨8, ys i, false⟩]⟩) (fun i => i ≤ n) (fun i => n - i) 0 (Nat.zero_le _) (Sbs.mk rfl ?_ ?_) (fun i hi => ?_)⟩
  · subst hΩ; rw [hys, fill_zero, ← hn, ← hlen]; rfl
  · subst hΩ; subst hlen; exact ⟨rfl, rfl, rfl, trivial⟩
  cbv
  refine br (fun h => ?_) (fun h => ?_)
  · replace h : i < n := by subst hΩ; have h : (i : Int) < xs.length := lt_t h; omega
    obtain ⟨c, hcc⟩ : ∃ c, cs[i]? = some c := ⟨_, List.getElem?_eq_getElem (by omega)⟩
    cbv
    refine ⟨⟨by subst hΩ; exact Int.natCast_nonneg i⟩, c.enc, by subst hΩ; show xs[i]? = _; rw [hxs, List.getElem?_map, hcc]; rfl, ?_⟩
    cbv
    refine ⟨CallOK_pure (k := 3) (hc c) rfl (fits _) (by cbv) (by cbv) ?_⟩
    cbv
    have hl2 : (ys i).length = n := by rw [hys, hn]; exact fill_length (by omega)
    refine ⟨⟨by subst hΩ; exact ⟨Int.natCast_nonneg i, Int.ofNat_lt.2 h⟩⟩, ⟨by subst hΩ; show 0 + i < _ ∧ _; rw [hl2]; exact ⟨by omega, by rw [hys]; exact fill_all (fun _ => rfl) rfl⟩⟩,
      i + 1, by omega, by omega, Sbs.mk rfl ?_ ?_⟩
    · subst hΩ; rw [hys, ← fill_set hcc, ← hys]; show [some (Row.mk 8 ((ys i).set (0 + i) c.enc) false)] = _; rw [Nat.zero_add]
    · subst hΩ; exact ⟨rfl, rfl, congrArg i64 (inc64 (by omega)), trivial⟩
  · replace h : i = n := by subst hΩ; have h : (xs.length : Int) ≤ i := lt_f h; omega
    cbv
    refine ⟨⟨rfl, ?_⟩, .of ?_⟩
    · rw [hys, hn]; exact (fill_length (by omega)).symm
    · rw [h, hys, hxs, hn, fill_full]
end Go.Proofs.Ytknkllffikfmdaa

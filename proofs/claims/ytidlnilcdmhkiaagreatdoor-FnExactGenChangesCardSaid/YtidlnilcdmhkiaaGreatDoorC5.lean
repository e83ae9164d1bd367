/- Texts cut at a byte; the library's Split, as a contract. Plain theorems. -/
import Derived.Test.YtidlnilcdmhkiaaGreatDoorC4
import Derived.Shelf.Strings.SplitCore
import Derived.Shelf.Strings.Search3
import Derived.Shelf.Strings.Count
import Derived.Lib.IndexBytes
import Derived.Lib.SplitLaws
import Derived.Ground.NamesProg
import Derived.Lib.Repeat
import Derived.Lib.Bytealg
import Derived.Sort.Walk0
import Derived.Shelf.Spec.SlicesGrow
import Derived.Ground.Names8Prog
import Derived.Shelf.SortM.Plain
import Derived.Shelf.SortM.SortNone
import Derived.Ground.SlgmProg
import Derived.Sort.OwnSortedInts
set_option linter.unusedVariables false
set_option linter.unusedSimpArgs false
namespace Go.Proofs
open Go.Shelf
def Tryz.genS_ren : Go.Shelf.Ren := ⟨fun | 221 => 207 | 268 => 233 | 138 => 234 | 143 => 235 | 195 => 245 | 197 => 246 | 218 => 247 | 219 => 248 | 260 => 250 | 217 => 251 | 225 => 252 | 224 => 253 | 267 => 254 | 266 => 255 | 314 => 256 | n => n, fun | 9 => 9 | 3 => 3 | 31 => 53 | 4 => 4 | 0 => 0 | 105 => 267 | 21 => 21 | 5 => 5 | 46 => 171 | 119 => 274 | 139 => 277 | 138 => 276 | 146 => 206 | 51 => 205 | n => n, fun | 1 => 0 | 3 => 4 | 4 => 5 | n => n⟩
theorem Tryz.genS : Go.Proofs.Lays.n221 Tryz.prog Tryz.genS_ren where
  mixed := by kernel_rfl
  f138 := Tryz.func234.trans (congrArg some (by kernel_rfl))
  f143 := Tryz.func235.trans (congrArg some (by kernel_rfl))
  f195 := Tryz.func245.trans (congrArg some (by kernel_rfl))
  f197 := Tryz.func246.trans (congrArg some (by kernel_rfl))
  f217 := Tryz.func251.trans (congrArg some (by kernel_rfl))
  f218 := Tryz.func247.trans (congrArg some (by kernel_rfl))
  f219 := Tryz.func248.trans (congrArg some (by kernel_rfl))
  f221 := Tryz.func207.trans (congrArg some (by kernel_rfl))
  f224 := Tryz.func253.trans (congrArg some (by kernel_rfl))
  f225 := Tryz.func252.trans (congrArg some (by kernel_rfl))
  f260 := Tryz.func250.trans (congrArg some (by kernel_rfl))
  f266 := Tryz.func255.trans (congrArg some (by kernel_rfl))
  f267 := Tryz.func254.trans (congrArg some (by kernel_rfl))
  f268 := Tryz.func233.trans (congrArg some (by kernel_rfl))
  f314 := Tryz.func256.trans (congrArg some (by kernel_rfl))
  t0 := Tryz.underlying0
  a0 := Tryz.isAgg0
  z0 := Tryz.sizeOf0
  v0 := Tryz.zeroValue0
  t3 := Tryz.underlying3
  a3 := Tryz.isAgg3
  z3 := Tryz.sizeOf3
  v3 := Tryz.zeroValue3
  t4 := Tryz.underlying4
  a4 := Tryz.isAgg4
  z4 := Tryz.sizeOf4
  v4 := Tryz.zeroValue4
  t5 := Tryz.underlying5
  a5 := Tryz.isAgg5
  z5 := Tryz.sizeOf5
  v5 := Tryz.zeroValue5
  t9 := Tryz.underlying9
  a9 := Tryz.isAgg9
  z9 := Tryz.sizeOf9
  v9 := Tryz.zeroValue9
  t21 := Tryz.underlying21
  a21 := Tryz.isAgg21
  z21 := Tryz.sizeOf21
  v21 := Tryz.zeroValue21
  t31 := Tryz.underlying53
  a31 := Tryz.isAgg53
  z31 := Tryz.sizeOf53
  v31 := Tryz.zeroValue53
  t46 := Tryz.underlying171
  a46 := Tryz.isAgg171
  z46 := Tryz.sizeOf171
  v46 := Tryz.zeroValue171
  t51 := Tryz.underlying205
  a51 := Tryz.isAgg205
  z51 := Tryz.sizeOf205
  v51 := Tryz.zeroValue205
  t105 := Tryz.underlying267
  a105 := Tryz.isAgg267
  z105 := Tryz.sizeOf267
  v105 := Tryz.zeroValue267
  t119 := Tryz.underlying274
  a119 := Tryz.isAgg274
  z119 := Tryz.sizeOf274
  t138 := Tryz.underlying276
  a138 := Tryz.isAgg276
  z138 := Tryz.sizeOf276
  v138 := Tryz.zeroValue276
  t139 := Tryz.underlying277
  a139 := Tryz.isAgg277
  z139 := Tryz.sizeOf277
  v139 := Tryz.zeroValue277
  t146 := Tryz.underlying206
  a146 := Tryz.isAgg206
  z146 := Tryz.sizeOf206
  v146 := Tryz.zeroValue206
  g1 := by kernel_rfl
  g3 := by kernel_rfl
  g4 := by kernel_rfl

end Go.Proofs
namespace Go.Proofs.YtidlnilcdmhkiaaGreatDoor
open Go Go.Fw Go.Proofs Go.Lib
set_option maxRecDepth 100000
/-- A text cut at a byte. -/
def cutAt (c : UInt8) : List UInt8 → List (List UInt8)
  | [] => [[]]
  | x :: xs => if x = c then [] :: cutAt c xs else match cutAt c xs with
    | [] => [[x]]
    | y :: ys => (x :: y) :: ys
theorem cutAt_ne {c : UInt8} : ∀ {s : List UInt8}, cutAt c s ≠ []
  | [] => by simp [cutAt]
  | x :: xs => by
    unfold cutAt
    split
    · simp
    · split <;> simp
theorem cutAt_len {c : UInt8} : ∀ {s : List UInt8}, (cutAt c s).length ≤ s.length + 1
  | [] => by simp [cutAt]
  | x :: xs => by
    have ih := cutAt_len (c := c) (s := xs)
    unfold cutAt
    split
    · simp only [List.length_cons]; omega
    · split
      · simp
      · rename_i h; rw [h] at ih; simp only [List.length_cons] at ih ⊢; omega
theorem cutAt_mem {c : UInt8} : ∀ {s l : List UInt8}, l ∈ cutAt c s → l.length ≤ s.length
  | [], l, h => by simp [cutAt] at h; simp [h]
  | x :: xs, l, h => by
    unfold cutAt at h
    split at h
    · rcases List.mem_cons.1 h with rfl | h
      · simp
      · have := cutAt_mem h; simp only [List.length_cons]; omega
    · split at h
      · rename_i he; exact absurd he cutAt_ne
      · rename_i y ys he
        rcases List.mem_cons.1 h with rfl | h
        · have := cutAt_mem (c := c) (s := xs) (l := y) (by rw [he]; simp); simp only [List.length_cons]; omega
        · have := cutAt_mem (c := c) (s := xs) (l := l) (by rw [he]; simp [h]); simp only [List.length_cons]; omega
theorem index_cons (b c : UInt8) (l : List UInt8) : Lib.index (b :: l) [c] = if b = c then 0 else if Lib.index l [c] = -1 then -1 else Lib.index l [c] + 1 := by
  rw [Lib.index]
  by_cases h : b = c
  · subst h; simp [List.isPrefixOf]
  · have hp : ([c] : List UInt8).isPrefixOf (b :: l) = false := by simp [List.isPrefixOf, Ne.symm h]
    rw [hp, if_neg h]
    simp
theorem splitK_cut (c : UInt8) : ∀ s : List UInt8, splitK [c] 0 (Lib.count s [c]) s = cutAt c s
  | [] => by rw [count_miss (by simp [Lib.index])]; rfl
  | b :: l => by
    have ih := splitK_cut c l
    by_cases h : b = c
    · subst h
      rw [count_cons_eq, Nat.add_comm, splitK, index_cons, if_pos rfl]
      simp only [cutAt, if_true]
      rw [← ih]; simp
    · rw [count_cons_ne b c l h]
      simp only [cutAt, if_neg h]
      rw [← ih]
      cases hk : Lib.count l [c] with
      | zero => simp [splitK]
      | succ k =>
        have hm : Lib.index l [c] ≠ -1 := fun e => by rw [count_miss e] at hk; cases hk
        have hge := index_ge l [c]
        obtain ⟨j, hj⟩ : ∃ j : Nat, Lib.index l [c] = j := ⟨(Lib.index l [c]).toNat, by omega⟩
        have e1 : (((j : Int) + 1) == -1) = false := beq_eq_false_iff_ne.2 (by omega)
        have e2 : ((j : Int) == -1) = false := beq_eq_false_iff_ne.2 (by omega)
        have e3 : ((j : Int) + 1).toNat = j + 1 := by omega
        simp only [splitK, index_cons, if_neg h, if_neg hm]
        rw [hj]
        simp only [e1, e2, e3, Int.toNat_natCast, Bool.false_eq_true, if_false, Nat.add_zero, List.length_singleton]
        simp
theorem relC1 {w : World} {G : Nat → Prop} {x : A} {xs : List A} {vs : List Value} (h : RelL w G (x :: xs) vs []) : ∃ v us, vs = v :: us ∧ Rel w G x v [] ∧ RelL w G xs us [] := by
  generalize hF : ([] : List Nat) = F at h
  generalize hx : x :: xs = ys at h
  cases h with
  | nil => cases hx
  | cons h hl =>
    cases hx
    obtain ⟨rfl, rfl⟩ := List.append_eq_nil_iff.1 hF.symm
    exact ⟨_, _, rfl, h, hl⟩
theorem ofS1 {w : World} {G : Nat → Prop} : ∀ (xs : List (List UInt8)), RelL w G (xs.map str) (xs.map fun c => Value.string (mkS c)) []
  | [] => .nil
  | x :: xs => .cons (F := []) (Fs := []) (.sc rfl) (ofS1 xs)
theorem flatS1 (xs : List (List UInt8)) : flat (xs.map str) = xs.map str := by
  induction xs with
  | nil => rfl
  | cons x xs ih => simp only [flat, List.map_cons, List.flatMap_cons] at *; rw [ih]; rfl
theorem c_genSplit (c : UInt8) (s : List UInt8) (hs : s.length ≤ 1048576) : PCtr PP n_strings_genSplit [str s, str [c], i64 0, i64 (-1)] (.sl true 1 ((cutAt c s).map str)) := by
  refine ⟨fn_strings_genSplit.1, fun w G vs hG hl => ?_⟩
  obtain ⟨v1, us, rfl, h1, hl⟩ := relC1 hl
  obtain ⟨v2, us, rfl, h2, hl⟩ := relC1 hl
  obtain ⟨v3, us, rfl, h3, hl⟩ := relC1 hl
  obtain ⟨v4, us, rfl, h4, hl⟩ := relC1 hl
  cases hl
  cases h1
  cases h2
  cases h3
  cases h4
  have hsz : (mkS s).size = s.length := rfl
  have h1c : 1 ≤ (mkS [c]).size := Nat.le_refl 1
  have L := Tryz.genS
  have L143 : Go.Proofs.Lays.n143 PP Tryz.genS_ren := { L with }
  have L138 : Go.Proofs.Lays.n138 PP Tryz.genS_ren := { L with }
  have hle := countB_le (mkS [c]) h1c (mkS s).size (mkS s) (Nat.le_refl _)
  have hlen := splitB_all (mkS [c]) h1c 0 _ (mkS s) rfl
  have hd : (splitB (mkS [c]) 0 (countB (mkS s) (mkS [c])) (mkS s)).map (·.data.toList) = cutAt c s := by rw [splitB_data]; exact splitK_cut c s
  have hcl : (cutAt c s).length = countB (mkS s) (mkS [c]) + 1 := by rw [← hd, List.length_map, hlen]
  have ht : (PP.info? (Tryz.genS_ren.t 9)).map (fun i => (i.zero, i.size, i.bytes)) = some (some (.string ByteArray.empty), 1, 16) := by kernel_rfl
  have g := Any.strings_genSplit_core Tryz.genS ht (mkS s) (mkS [c]) 0 (-1) (countB (mkS s) (mkS [c]) + 1) w (by rw [hsz]; omega) h1c (Nat.zero_le _)
    (fun x cc hx => (Any.strings_Index_one L143 x c _).mono fun e w' ⟨he, hw⟩ => ⟨by rw [he]; exact congrArg (fun z => Ending.returned (Value.int .i64 z)) (index_one _ _).symm, hw⟩)
    ((Any.strings_Count_one L138 (mkS s) c w).mono fun e w' ⟨he, hw⟩ => ⟨by rw [he]; exact congrArg (fun z : Nat => Ending.returned (Value.int .i64 (z : Int))) (count_one _ _).symm, hw⟩) (by decide) (by decide) (by rw [if_pos (by decide)]; omega)
  rw [Nat.add_sub_cancel, hlen] at g
  have e2 : cellsOf (splitB (mkS [c]) 0 (countB (mkS s) (mkS [c])) (mkS s)) (countB (mkS s) (mkS [c]) + 1) = ((splitB (mkS [c]) 0 (countB (mkS s) (mkS [c])) (mkS s)).map Value.string).toArray := by rw [← hlen]; exact cellsOf_full _
  have e3 : (splitB (mkS [c]) 0 (countB (mkS s) (mkS [c])) (mkS s)).map Value.string = (cutAt c s).map fun c => Value.string (mkS c) := by
    rw [← hd, List.map_map]
    exact List.map_congr_left fun x _ => rfl
  rw [e2, e3] at g
  refine Calls.mono g ?_
  rintro e w' ⟨rfl, rfl⟩
  refine ⟨_, [w.heap.size], rfl, ⟨rfl, rfl, rfl, by simp, fun b hb => heap_alloc_old w _ hb⟩, by simp, by simp, ?_⟩
  refine .ow (F := []) (heap_alloc_new w _) (fun x hx => by obtain ⟨y, _, rfl⟩ := List.mem_map.1 hx; rfl) (by rw [List.length_map]; exact hcl.symm) (by rw [Nat.mul_one, ← hcl, List.take_of_length_le (by simp)]) (by rw [flatS1]; exact ofS1 _) (Nat.le_refl _) (by unfold maxLen; omega) (by simp; omega) (fun v hv => by obtain ⟨y, _, rfl⟩ := List.mem_map.1 hv; rfl)
end Go.Proofs.YtidlnilcdmhkiaaGreatDoor

/- Walks: texts cut into pieces, lines, words. Plain theorems. -/
set_option linter.unusedVariables false
set_option linter.unusedSimpArgs false
namespace Go.Proofs.YtidlnilcdmhkiaaGreatDoor
open Go Go.Fw
set_option maxRecDepth 100000
theorem c_Split (c : UInt8) (s : List UInt8) (hs : s.length ≤ 1048576) : PCtr PP n_strings_Split [str s, str [c]] (.sl true 1 ((cutAt c s).map str)) := by
  obtain ⟨Ω, hΩ⟩ : ∃ Ω, Ω = std := ⟨_, rfl⟩
  have hc := c_genSplit c s hs
  have rs : roFree (.sl true 1 ((cutAt c s).map str)) = true := roFAll fun x hx => by obtain ⟨c, _, rfl⟩ := List.mem_map.1 hx; rfl
  have htab := tab
  generalize (cutAt c s).map str = ys at *
  refine PCtr.walk tab hΩ fn_strings_Split rfl ?_
  generalize PP = P at *
  cbv
  refine call_pure hΩ 3 hc rfl (fits _) rs rfl ?_
  cbv
  exact ⟨⟨rfl, by subst hΩ; exact Nat.le_refl _⟩, .of (congrArg (A.sl true 1) (takeAll hΩ _))⟩
/-- What is left to cut, behind a piece begun. -/
def cutP (c : UInt8) (pre xs : List UInt8) : List (List UInt8) :=
  match cutAt c xs with
  | [] => [pre]
  | y :: ys => (pre ++ y) :: ys
theorem cutP_nil (c : UInt8) (pre : List UInt8) : cutP c pre [] = [pre] := by simp [cutP, cutAt]
theorem cutP_eq (c : UInt8) (pre xs : List UInt8) : cutP c pre (c :: xs) = pre :: cutAt c xs := by simp [cutP, cutAt]
theorem cutP_ne {c x : UInt8} (pre xs : List UInt8) (h : x ≠ c) : cutP c pre (x :: xs) = cutP c (pre ++ [x]) xs := by
  have hn := cutAt_ne (c := c) (s := xs)
  unfold cutP
  simp only [cutAt, if_neg h]
  cases hc : cutAt c xs with
  | nil => exact absurd hc hn
  | cons y ys => simp
theorem cutP_zero (c : UInt8) (xs : List UInt8) : cutP c [] xs = cutAt c xs := by
  have hn := cutAt_ne (c := c) (s := xs)
  unfold cutP
  cases hc : cutAt c xs with
  | nil => exact absurd hc hn
  | cons y ys => simp
theorem c_l1Parts (c : UInt8) (s : List UInt8) (hs : s.length ≤ 1048576) : PCtr PP n_spec_l1Parts [str s, u8 c] (.sl true 1 ((cutAt c s).map str)) := by
  obtain ⟨Ω, hΩ⟩ : ∃ Ω, Ω = std := ⟨_, rfl⟩
  obtain ⟨F, hF⟩ : ∃ F : List (List UInt8) → List A, F = fun l => l.map str := ⟨_, rfl⟩
  have hFm : ∀ t : List (List UInt8), t.map str = F t := fun t => by rw [hF]
  have hlen : ∀ t, (F t).length = t.length := fun t => by rw [hF, List.length_map]
  have hap : ∀ t x, Ω.app (Ω.take (Ω.len (F t)) (F t)) [str x] = F (t ++ [x]) := fun t x => by rw [takeAll hΩ, ← hFm, ← hFm, List.map_append]; subst hΩ; rfl
  have hpl : ∀ t x, Ω.plus (Ω.len (F t)) (Ω.len [str x]) = Ω.len (F (t ++ [x])) := fun t x => by rw [← hap, takeAll hΩ]; subst hΩ; exact (List.length_append).symm
  have hF0 : F [] = [] := by rw [hF]; rfl
  rw [hFm]
  obtain ⟨r, hr⟩ : ∃ r, r = cutAt c s := ⟨_, rfl⟩
  rw [← hr]
  obtain ⟨n, hn⟩ : ∃ n, n = s.length := ⟨_, rfl⟩
  have hls : Ω.int (Ω.lenS s) = Ω.int n := by subst hΩ; rw [hn]; rfl
  have htab := tab
  refine PCtr.walk tab hΩ fn_spec_l1Parts rfl ?_
  generalize PP = P at *
  cbv
  refine loopX htab hΩ (fun i : Nat × Nat × List (List UInt8) => ⟨[(0, str s), (1, u8 c), (5, .vw 0 0 (Ω.len (F i.2.2))), (6, i64 (Ω.int i.2.1)), (7, i64 (Ω.int i.1))], 36, [some ⟨1, F i.2.2, false⟩]⟩)
    (fun i => i.1 ≤ n + 1 ∧ i.2.2.length ≤ i.1 ∧ (i.1 ≤ n → i.2.1 ≤ i.1 ∧ r = i.2.2 ++ cutP c ((s.take i.1).drop i.2.1) (s.drop i.1)) ∧ (i.1 = n + 1 → r = i.2.2)) (fun i => n + 1 - i.1) (0, 0, [])
    ⟨Nat.zero_le _, Nat.zero_le _, fun _ => ⟨Nat.le_refl _, by rw [hr]; exact (cutP_zero c s).symm⟩, fun h => by dsimp only at h; omega⟩
    (Sbs.mk rfl (by dsimp only; rw [hF0]) ⟨rfl, rfl, by dsimp only; rw [hF0]; subst hΩ; rfl, zeroI hΩ, zeroI hΩ, trivial⟩) ?_
  rintro ⟨i, f, o⟩ ⟨hi, ho, hc1, hc2⟩
  dsimp only at hi ho hc1 hc2
  have hol := hlen o
  have hlo : Ω.len (F o) = (F o).length := by subst hΩ; rfl
  have hle : Ω.len (F o) ≤ (F o).length := by rw [hlo]; exact Nat.le_refl _
  have htk : Ω.take (Ω.len (F o)) (F o) = F o := takeAll hΩ _
  obtain ⟨pc, hpcd⟩ : ∃ pc, pc = (s.take i).drop f := ⟨_, rfl⟩
  have hpc : Ω.segS (Ω.nat (Ω.int f)) (Ω.nat (Ω.int i)) s = pc := by subst hΩ; exact hpcd.symm
  have hap0 := hap o pc
  have hpl0 := hpl o pc
  have hni : Ω.nat (Ω.int i) = i := by subst hΩ; rfl
  have hnf : Ω.nat (Ω.int f) = f := by subst hΩ; rfl
  rw [← hpcd] at hc1
  dsimp only
  cbv
  refine br (fun h => ?_) (fun h => ?_) <;> cbv
  · replace h : i ≤ n := by have h := leZt hΩ h; subst hΩ; have h : (i : Int) ≤ s.length := h; omega
    obtain ⟨hfi, hri⟩ := hc1 h
    have app : ∀ {X : Prop}, r = (o ++ [pc]) ++ (if i = n then [] else cutP c ((s.take (i + 1)).drop (i + 1)) (s.drop (i + 1))) →
        ((i + 1 ≤ n + 1) ∧ (o ++ [pc]).length ≤ i + 1 ∧ (i + 1 ≤ n → i + 1 ≤ i + 1 ∧ r = (o ++ [pc]) ++ cutP c ((s.take (i + 1)).drop (i + 1)) (s.drop (i + 1))) ∧ (i + 1 = n + 1 → r = o ++ [pc])) := fun hh =>
      ⟨by omega, by simp; omega, fun h2 => ⟨Nat.le_refl _, by rw [if_neg (by omega)] at hh; exact hh⟩, fun h2 => by rw [if_pos (by omega), List.append_nil] at hh; exact hh⟩
    have fin : r = (o ++ [pc]) ++ (if i = n then [] else cutP c ((s.take (i + 1)).drop (i + 1)) (s.drop (i + 1))) → _ := app (X := True)
    refine br (fun q => ?_) (fun q => ?_) <;> cbv
    · have q := eqZt hΩ q
      have q : i = n := by subst hΩ; have q : (i : Int) = s.length := q; omega
      have hd : s.drop i = [] := List.drop_of_length_le (by omega)
      rw [hd, cutP_nil] at hri
      exact ⟨⟨nnI hΩ, nnI hΩ, by show Ω.nat (Ω.int f) ≤ Ω.nat (Ω.int i); omega, by show Ω.nat (Ω.int i) ≤ s.length; omega⟩, ⟨rfl, okAll rfl, by show (Ω.len (F o) + 1) * 16 ≤ 140737488355328; omega, by show Ω.len (F o) + 1 ≤ 9223372036854775807; omega⟩,
        (i + 1, i + 1, o ++ [pc]), fin (by rw [if_pos q, List.append_nil]; exact hri), by show n + 1 - (i + 1) < n + 1 - i; omega, (Sbs.cut 1 rfl).trans (Sbs.mk rfl (by show [some (Row.mk 1 (Ω.app (Ω.take (Ω.len (F o)) (F o)) [str (Ω.segS (Ω.nat (Ω.int f)) (Ω.nat (Ω.int i)) s)]) false)] = _; rw [hpc, hap0]) ⟨rfl, rfl, congrArg (A.vw 0 0) (by show Ω.plus (Ω.len (F o)) (Ω.len [str (Ω.segS (Ω.nat (Ω.int f)) (Ω.nat (Ω.int i)) s)]) = _; rw [hpc]; exact hpl0), incI hΩ (by omega), incI hΩ (by omega), trivial⟩)⟩
    · have q := eqZf hΩ q
      have q : i < n := by
        have : i ≠ n := fun e => q (by subst hΩ; show (i : Int) = s.length; omega)
        omega
      obtain ⟨x, hx⟩ := at_of (cs := s) (by omega : i < _)
      have hdx : s.drop i = x :: s.drop (i + 1) := by
        obtain ⟨h1, rfl⟩ := List.getElem?_eq_some_iff.1 hx
        exact List.drop_eq_getElem_cons h1
      rw [hdx] at hri
      refine ⟨⟨nnI hΩ⟩, x, by subst hΩ; exact hx, ?_⟩
      cbv
      refine br (fun k => ?_) (fun k => ?_) <;> cbv
      · have k : x = c := by
          have k := eqZt hΩ (iteB hΩ k)
          subst hΩ
          exact UInt8.toNat_inj.1 (Int.ofNat_inj.1 k)
        subst k
        rw [cutP_eq] at hri
        have he : (s.take (i + 1)).drop (i + 1) = [] := List.drop_of_length_le (by rw [List.length_take]; omega)
        exact ⟨⟨nnI hΩ, nnI hΩ, by show Ω.nat (Ω.int f) ≤ Ω.nat (Ω.int i); omega, by show Ω.nat (Ω.int i) ≤ s.length; omega⟩, ⟨rfl, okAll rfl, by show (Ω.len (F o) + 1) * 16 ≤ 140737488355328; omega, by show Ω.len (F o) + 1 ≤ 9223372036854775807; omega⟩,
          (i + 1, i + 1, o ++ [pc]), fin (by rw [if_neg (by omega), he, cutP_zero, List.append_assoc]; exact hri), by show n + 1 - (i + 1) < n + 1 - i; omega, (Sbs.cut 1 rfl).trans (Sbs.mk rfl (by show [some (Row.mk 1 (Ω.app (Ω.take (Ω.len (F o)) (F o)) [str (Ω.segS (Ω.nat (Ω.int f)) (Ω.nat (Ω.int i)) s)]) false)] = _; rw [hpc, hap0]) ⟨rfl, rfl, congrArg (A.vw 0 0) (by show Ω.plus (Ω.len (F o)) (Ω.len [str (Ω.segS (Ω.nat (Ω.int f)) (Ω.nat (Ω.int i)) s)]) = _; rw [hpc]; exact hpl0), incI hΩ (by omega), incI hΩ (by omega), trivial⟩)⟩
      · have k : x ≠ c := by
          have k := eqZf hΩ (iteB hΩ k)
          subst hΩ
          exact fun e => k (by subst e; rfl)
        rw [cutP_ne _ _ k] at hri
        have he : (s.take (i + 1)).drop f = pc ++ [x] := by
          rw [hpcd, List.take_add_one, hx]
          rw [List.drop_append_of_le_length (by rw [List.length_take]; omega)]
          rfl
        exact ⟨(i + 1, f, o), ⟨by show i + 1 ≤ n + 1; omega, by show o.length ≤ i + 1; omega, fun _ => ⟨by show f ≤ i + 1; omega, by show r = o ++ cutP c ((s.take (i + 1)).drop f) (s.drop (i + 1)); rw [he]; exact hri⟩, fun e => by have e : i + 1 = n + 1 := e; omega⟩, by show n + 1 - (i + 1) < n + 1 - i; omega, Sbs.mk rfl rfl ⟨rfl, rfl, rfl, rfl, incI hΩ (by omega), trivial⟩⟩
  · replace h : n < i := by have h := leZf hΩ h; subst hΩ; have h : (s.length : Int) < i := h; omega
    have := hc2 (by omega)
    exact ⟨⟨rfl, hle⟩, .of (congrArg (A.sl true 1) (htk.trans (by rw [this])))⟩
end Go.Proofs.YtidlnilcdmhkiaaGreatDoor

/- Walks: lists of texts by a function value; words, lines. Plain theorems. -/
set_option linter.unusedVariables false
set_option linter.unusedSimpArgs false
namespace Go.Proofs.YtidlnilcdmhkiaaGreatDoor
open Go Go.Fw
set_option maxRecDepth 100000
theorem noStrS (l : List (List UInt8)) : (∀ y ∈ l.map str, noOwn y = true) ∧ (∀ c ∈ flat (l.map str), okCell c = true) ∧ (∀ y ∈ l.map str, isAggB y = false) ∧ (∀ y ∈ l.map str, vStore.isAggA y = false) := by
  refine ⟨fun y hy => ?_, fun y hy => ?_, fun y hy => ?_, fun y hy => ?_⟩
  · obtain ⟨c, _, rfl⟩ := List.mem_map.1 hy; rfl
  · rw [flatS1] at hy; obtain ⟨c, _, rfl⟩ := List.mem_map.1 hy; rfl
  · obtain ⟨c, _, rfl⟩ := List.mem_map.1 hy; rfl
  · obtain ⟨c, _, rfl⟩ := List.mem_map.1 hy; rfl
theorem idx_specS (p : List UInt8 → Bool) : ∀ (l : List (List UInt8)) (i : Nat), (idxFrom p i l = -1 ∧ (l.filter fun x => !p x) = l) ∨ ∃ m, idxFrom p i l = ((i + m : Nat) : Int) ∧ m < l.length ∧ ((l.take (m + 1)).filter fun x => !p x) = l.take m
  | [], i => .inl ⟨rfl, rfl⟩
  | x :: xs, i => by
    rw [idxFrom]
    by_cases h : p x = true
    · right
      refine ⟨0, by rw [if_pos h]; simp, by simp, by simp [h]⟩
    · rw [if_neg h]
      rcases idx_specS p xs (i + 1) with ⟨h1, h2⟩ | ⟨m, h1, h2, h3⟩
      · left
        refine ⟨h1, ?_⟩
        rw [List.filter_cons_of_pos (by simpa using h), h2]
      · right
        refine ⟨m + 1, by rw [h1]; congr 1; omega, by simp; omega, ?_⟩
        rw [List.take_succ_cons, List.filter_cons_of_pos (by simpa using h), h3, List.take_succ_cons]
theorem filter_atS {p : List UInt8 → Bool} {s : List (List UInt8)} {j : Nat} {c : List UInt8} (h : s[j]? = some c) : ((s.take (j + 1)).filter fun x => !p x) = ((s.take j).filter fun x => !p x) ++ (if p c then [] else [c]) := by
  rw [List.take_add_one, h, List.filter_append]
  congr 1
  by_cases hc : p c <;> simp [hc]
theorem c_DeleteFuncS (s : List (List UInt8)) (hs : s.length ≤ 1048576) (g : Nat) (caps : List A) (p : List UInt8 → Bool) (hf : CloB PP str s g caps p) : ECtr PP n_slices_DeleteFunc_L_string_string [.sl true 1 (s.map str), .clo g caps] (.sl true 1 ((s.filter fun x => !p x).map str)) := by
  obtain ⟨Ω, hΩ⟩ : ∃ Ω, Ω = std := ⟨_, rfl⟩
  have hc := c_IndexFuncS s (by omega) g caps p hf
  have hro := hf.ro
  have hcn := hf.no
  have hrun : ∀ x ∈ s, PCtr PP (Ω.cloN g) (Ω.cloA g [str x] caps) (boo (p x)) := by subst hΩ; exact hf.run
  obtain ⟨k, hk⟩ : ∃ k, idx p s = k := ⟨_, rfl⟩
  rw [hk] at hc
  obtain ⟨xs, hxs⟩ : ∃ xs, xs = s.map str := ⟨_, rfl⟩
  have hlen : xs.length = s.length := by rw [hxs, List.length_map]
  have hno := noStrS s
  have hfz := frzStr s
  rw [← hxs] at hno hfz hc ⊢
  have hle : Ω.len xs = xs.length := by subst hΩ; rfl
  obtain ⟨zs, hzs⟩ : ∃ zs, zs = (s.filter fun x => !p x).map str := ⟨_, rfl⟩
  rw [← hzs]
  have htab := tab
  refine ECtr.walk tab hΩ 3 fn_slices_DeleteFunc_L_string_string rfl (by simp only [rootO, rootO.rootOL, List.all_cons, List.all_nil, noOwn_vw, noOwn_clo, hcn]; rfl) ?_
  generalize PP = P at *
  cbv
  refine call_pure hΩ 5 hc (ro_clo2 (roV rfl hle hfz) (hro _ 0)) (fits _) rfl rfl ?_
  cbv
  refine br (fun g1 => ?_) (fun g1 => ?_) <;> cbv
  · have g1 : k = -1 := eqI_t hΩ g1
    rcases idx_specS p s 0 with ⟨h1, h2⟩ | ⟨m, h1, _⟩
    · refine ⟨⟨rfl, by subst hΩ; exact Nat.le_refl _⟩, .of ?_⟩
      rw [hzs, h2, ← hxs]
      subst hΩ
      show A.sl true 1 (xs.take xs.length) = _
      rw [List.take_length]
    · have : k = ((0 + m : Nat) : Int) := by rw [← hk]; exact h1
      omega
  have g1 : k ≠ -1 := eqI_f hΩ g1
  obtain ⟨m, hkm, hml, hfm⟩ : ∃ m : Nat, k = Ω.int m ∧ m < s.length ∧ ((s.take (m + 1)).filter fun x => !p x) = s.take m := by
    rcases idx_specS p s 0 with ⟨h1, _⟩ | ⟨m, h1, h2, h3⟩
    · exact absurd (hk.symm.trans h1) g1
    · rw [Nat.zero_add] at h1
      exact ⟨m, by subst hΩ; exact hk.symm.trans h1, h2, h3⟩
  subst hkm
  obtain ⟨F, hF⟩ : ∃ F : Nat → List (List UInt8), F = fun j => (s.take j).filter fun x => !p x := ⟨_, rfl⟩
  have hFat : ∀ j c, s[j]? = some c → F (j + 1) = F j ++ (if p c then [] else [c]) := fun j c h => by rw [hF]; exact filter_atS h
  have hFm : F (m + 1) = s.take m := by rw [hF]; exact hfm
  have hFml : (F (m + 1)).length = m := by rw [hFm]; simp; omega
  have hFn : F s.length = s.filter fun x => !p x := by rw [hF]; simp only; rw [List.take_length]
  refine loopX htab hΩ (fun i : Nat × List A => ⟨[(0, .vw 0 0 (Ω.len xs)), (1, .clo g caps), (5, .sc (.int .i64 (Ω.int (F i.1).length))), (6, .sc (.int .i64 (Ω.int i.1)))], 42, [some ⟨1, i.2, false⟩]⟩)
    (fun i => (F i.1).length < i.1 ∧ i.1 ≤ s.length ∧ i.2.length = s.length ∧ i.2.take (F i.1).length = (F i.1).map str ∧ (∀ q, i.1 ≤ q → i.2[q]? = xs[q]?) ∧ (∀ y ∈ i.2, isAggB y = false) ∧ (∀ y ∈ i.2, vStore.isAggA y = false))
    (fun i => s.length - i.1) (m + 1, xs) ⟨by dsimp only; omega, by dsimp only; omega, hlen, ?_, fun _ _ => rfl, hno.2.2.1, hno.2.2.2⟩ (Sbs.mk rfl rfl ⟨rfl, rfl, by rw [hFml]; rfl, incI hΩ (by omega), trivial⟩) ?_
  · dsimp only
    rw [hFml, hFm, hxs, List.map_take]
  rintro ⟨j, ys⟩ ⟨h1, h2, h3, h4, h5, h6, h7⟩
  dsimp only at h1 h2 h3 h4 h5 h6 h7
  obtain ⟨f, hf2⟩ : ∃ f, f = (F j).length := ⟨_, rfl⟩
  rw [← hf2] at h1 h4
  dsimp only
  rw [← hf2]
  cbv
  refine br (fun h => ?_) (fun h => ?_) <;> cbv
  · replace h := ltI hΩ h
    obtain ⟨c, hcc⟩ := at_of (cs := s) (by omega : j < s.length)
    have hyj : ys[j]? = some (str c) := by rw [h5 j (Nat.le_refl _), hxs, List.getElem?_map, hcc]; rfl
    have hFj := hFat j c hcc
    have hr1 := hrun c (List.mem_of_getElem? hcc)
    refine ⟨⟨ixI hΩ (by show j < Ω.len xs; rw [hle]; exact h)⟩, str c, atI hΩ hyj, ?_⟩
    cbv
    refine call_pure hΩ 4 hr1 (ro_cloA hΩ rfl (hro _ 0)) (fits _) rfl rfl ?_
    cbv
    refine br (fun g => ?_) (fun g => ?_) <;> cbv
    · have g := notT' hΩ g
      rw [g] at hFj
      have hFl : (F (j + 1)).length = f + 1 := by rw [hFj, hf2]; simp
      have hfl : f < ys.length := by omega
      refine ⟨⟨ixI hΩ (by show f < Ω.len xs; rw [hle]; omega)⟩, ⟨by subst hΩ; show 0 + f < ys.length; omega, h7⟩, ?_⟩
      refine ⟨(j + 1, ys.set f (str c)), ⟨by dsimp only; omega, by dsimp only; omega, by simpa using h3, ?_, fun q hq => ?_, fun y hy => ?_, fun y hy => ?_⟩, by dsimp only; omega, Sbs.mk rfl ?_ ⟨rfl, rfl, ?_, incI hΩ (by omega), trivial⟩⟩
      · dsimp only; rw [hFl, take_set_add hfl, h4, hFj, List.map_append]; rfl
      · dsimp only at hq ⊢; rw [List.getElem?_set_ne (by omega)]; exact h5 q (by omega)
      · rcases List.mem_or_eq_of_mem_set hy with hy | rfl
        · exact h6 y hy
        · rfl
      · rcases List.mem_or_eq_of_mem_set hy with hy | rfl
        · exact h7 y hy
        · rfl
      · subst hΩ; show [some (Row.mk 1 (ys.set (0 + f) (str c)) false)] = _; rw [Nat.zero_add]
      · dsimp only; rw [hFl]; exact incI hΩ (by omega)
    · have g : p c = true := notF' hΩ g
      rw [g] at hFj
      have hFl : (F (j + 1)).length = f := by rw [hFj, hf2]; simp
      exact ⟨(j + 1, ys), ⟨by dsimp only; omega, by dsimp only; omega, h3, by dsimp only; rw [hFl, h4, hFj]; simp, fun q hq => h5 q (by dsimp only at hq; omega), h6, h7⟩, by dsimp only; omega, Sbs.mk rfl rfl ⟨rfl, rfl, by dsimp only; rw [hFl]; rfl, incI hΩ (by omega), trivial⟩⟩
  · have hj : j = s.length := by have := geI hΩ h; omega
    subst hj
    refine ⟨⟨nnI hΩ, trivial, ?_, Nat.le_refl _⟩, ⟨?_, h6⟩, ⟨trivial, nnI hΩ, Nat.zero_le _, ?_⟩, ⟨?_, ?_⟩, .of ?_⟩
    · subst hΩ; show f ≤ xs.length; omega
    · subst hΩ; show 0 + f + (xs.length - f) = ys.length; omega
    · subst hΩ; show f ≤ xs.length; omega
    · subst hΩ; rfl
    · subst hΩ; show f - 0 ≤ (ys.take (0 + f) ++ List.replicate (xs.length - f) (A.sc (.string (mkS [])))).length; simp; omega
    · subst hΩ
      show A.sl true 1 ((ys.take (0 + f) ++ List.replicate (xs.length - f) (A.sc (.string (mkS [])))).take (f - 0)) = _
      rw [Nat.zero_add, Nat.sub_zero, List.take_append_of_le_length (by simp; omega), List.take_take, Nat.min_self, h4, hzs, hFn]
theorem roSS (l : List (List UInt8)) : roFree (.sl true 1 (l.map str)) = true := roFAll fun x hx => by obtain ⟨c, _, rfl⟩ := List.mem_map.1 hx; rfl
theorem seqT {Ω : Opq} (hΩ : Ω = std) {x y : List UInt8} (h : Ω.cmpS .eql x y = true) : x = y := by subst hΩ; exact of_decide_eq_true ((by simpa [cmpSS] using (show cmpSS .eql x y = true from h)))
theorem seqF {Ω : Opq} (hΩ : Ω = std) {x y : List UInt8} (h : Ω.cmpS .eql x y = false) : x ≠ y := by subst hΩ; exact fun e => by subst e; have h : cmpSS .eql x x = false := h; simp [cmpSS] at h
theorem sneT {Ω : Opq} (hΩ : Ω = std) {x y : List UInt8} (h : Ω.cmpS .neq x y = true) : x ≠ y := by subst hΩ; exact fun e => by subst e; have h : cmpSS .neq x x = true := h; simp [cmpSS] at h
theorem sneF {Ω : Opq} (hΩ : Ω = std) {x y : List UInt8} (h : Ω.cmpS .neq x y = false) : x = y := by subst hΩ; simpa [cmpSS] using (show cmpSS .neq x y = false from h)
/-- The words of a line. -/
def wordsP (s : List UInt8) : List (List UInt8) := (cutAt 32 s).filter fun w => !decide (w = [])
/-- The lines of a text. -/
def linesP (s : List UInt8) : List (List UInt8) := if (cutAt 10 s).getD ((cutAt 10 s).length - 1) [] = [] then (cutAt 10 s).take ((cutAt 10 s).length - 1) else cutAt 10 s
theorem c_wordsOf1 (s : List UInt8) : PCtr PP n_impl_wordsOf_1 [str s] (boo (decide (s = []))) := by
  obtain ⟨Ω, hΩ⟩ : ∃ Ω, Ω = std := ⟨_, rfl⟩
  have htab := tab
  refine PCtr.walk tab hΩ fn_impl_wordsOf_1 rfl ?_
  generalize PP = P at *
  cbv
  refine .of (congrArg boo ?_)
  show Ω.cmpS .eql s [] = _
  rcases h : Ω.cmpS .eql s [] with _ | _
  · exact (decide_eq_false (seqF hΩ h)).symm
  · exact (decide_eq_true (seqT hΩ h)).symm
theorem c_wordsOf (s : List UInt8) (hs : s.length ≤ 1048575) : PCtr PP n_impl_wordsOf [str s] (.sl true 1 ((wordsP s).map str)) := by
  obtain ⟨Ω, hΩ⟩ : ∃ Ω, Ω = std := ⟨_, rfl⟩
  have hl := cutAt_len (c := 32) (s := s)
  have h1 := c_Split 32 s (by omega)
  have h2 := c_DeleteFuncS (cutAt 32 s) (by omega) n_impl_wordsOf_1 [] (fun x => decide (x = [])) ⟨fun S k => rfl, rfl, fun _ => rfl, fun x hx => c_wordsOf1 x⟩
  have r1 := roSS (cutAt 32 s)
  have r2 := roSS (wordsP s)
  have hz : (cutAt 32 s).length = ((cutAt 32 s).map str).length := (List.length_map _).symm
  unfold wordsP at *
  generalize ((cutAt 32 s).filter fun w => !decide (w = [])).map str = zs at *
  generalize (cutAt 32 s).map str = ys at *
  have lo : Ω.len ys = ys.length := by subst hΩ; rfl
  have htab := tab
  refine PCtr.walk tab hΩ fn_impl_wordsOf rfl ?_
  generalize PP = P at *
  cbv
  refine call_pure hΩ 3 h1 rfl (fits _) r1 rfl ?_
  cbv
  refine call_eat2 (row := ⟨1, ys, false⟩) hΩ 3 h2 rfl rfl lo rfl (fits _) r2 rfl ?_
  cbv
  exact ⟨⟨rfl, by subst hΩ; exact Nat.le_refl _⟩, .of (congrArg (A.sl true 1) (takeAll hΩ _))⟩
theorem lastI {Ω : Opq} (hΩ : Ω = std) {ys : List A} {k : Nat} (hl : ys.length = k + 1) (hb : k < 4611686018427387904) : Ω.ar .sub .i64 (Ω.int (Ω.len ys)) 1 = Ω.int k := by
  subst hΩ
  show IntKind.i64.wrap ((ys.length : Int) - 1) = (k : Int)
  rw [hl, wrap64 (by omega) (by omega)]; omega
theorem linesP_len {s : List UInt8} : (linesP s).length ≤ s.length + 1 := by
  have := cutAt_len (c := 10) (s := s)
  unfold linesP
  split
  · rw [List.length_take]; omega
  · exact this
theorem linesP_mem {s l : List UInt8} (h : l ∈ linesP s) : l.length ≤ s.length := by
  unfold linesP at h
  split at h
  · exact cutAt_mem (List.mem_of_mem_take h)
  · exact cutAt_mem h
theorem c_linesOf (s : List UInt8) (hs : s.length ≤ 1048575) : PCtr PP n_impl_linesOf [str s] (.sl false 1 ((linesP s).map str)) := by
  obtain ⟨Ω, hΩ⟩ : ∃ Ω, Ω = std := ⟨_, rfl⟩
  have hl := cutAt_len (c := 10) (s := s)
  have hn0 := cutAt_ne (c := 10) (s := s)
  have h1 := c_Split 10 s (by omega)
  have r1 := roSS (cutAt 10 s)
  have f1 : Fw.frz (.sl true 1 ((cutAt 10 s).map str)) = .sl false 1 ((cutAt 10 s).map str) := by rw [frz_sl, frzStr]
  obtain ⟨k, hk⟩ : ∃ k, (cutAt 10 s).length = k + 1 := ⟨(cutAt 10 s).length - 1, by have := List.length_pos_iff.2 hn0; omega⟩
  unfold linesP
  rw [hk, Nat.add_sub_cancel]
  generalize cutAt 10 s = ls at *
  obtain ⟨ys, hys⟩ : ∃ ys, ys = ls.map str := ⟨_, rfl⟩
  have hyl : ys.length = k + 1 := by rw [hys, List.length_map, hk]
  obtain ⟨z, hz⟩ := at_of (cs := ls) (i := k) (by omega)
  obtain ⟨zs, hzs⟩ : ∃ zs, zs = (if ls.getD k [] = [] then ls.take k else ls).map str := ⟨_, rfl⟩
  have hgd : ls.getD k [] = z := by rw [List.getD_eq_getElem?_getD, hz]; rfl
  rw [hgd] at hzs ⊢
  rw [← hzs]
  rw [← hys] at h1 r1 f1
  have hla := lastI hΩ hyl (by omega)
  have htab := tab
  refine PCtr.walk tab hΩ fn_impl_linesOf rfl ?_
  generalize PP = P at *
  cbv
  refine call_pf hΩ 3 h1 rfl (fits _) r1 f1 rfl ?_
  cbv
  refine ⟨⟨by show 0 ≤ Ω.ar .sub .i64 (Ω.int (Ω.len ys)) 1; rw [hla]; exact nnI hΩ⟩, str z, by show ys[(Ω.ar .sub .i64 (Ω.int (Ω.len ys)) 1).toNat]? = _; rw [hla, hys]; subst hΩ; show (ls.map str)[k]? = _; rw [List.getElem?_map, hz]; rfl, ?_⟩
  cbv
  refine br (fun h => ?_) (fun h => ?_) <;> cbv
  · have h := seqT hΩ h
    have hsg : Ω.seg 0 (Ω.nat (Ω.ar .sub .i64 (Ω.int (Ω.len ys)) 1)) ys = zs := by
      rw [hla, hzs, if_pos h, hys]; subst hΩ
      show ((ls.map str).take k).drop 0 = _
      rw [List.drop_zero, List.map_take]
    exact ⟨⟨trivial, by show 0 ≤ Ω.ar .sub .i64 (Ω.int (Ω.len ys)) 1; rw [hla]; exact nnI hΩ, Nat.zero_le _, by show Ω.nat (Ω.ar .sub .i64 (Ω.int (Ω.len ys)) 1) ≤ ys.length; rw [hla]; subst hΩ; show k ≤ ys.length; omega⟩, .of (congrArg (A.sl false 1) hsg)⟩
  · have h := seqF hΩ h
    rw [if_neg h, ← hys] at hzs
    exact .of (congrArg (A.sl false 1) hzs.symm)
theorem c_l2Lines (s : List UInt8) (hs : s.length ≤ 1048575) : PCtr PP n_spec_l2Lines [str s] (.sl false 1 ((linesP s).map str)) := by
  obtain ⟨Ω, hΩ⟩ : ∃ Ω, Ω = std := ⟨_, rfl⟩
  have hl := cutAt_len (c := 10) (s := s)
  have hn0 := cutAt_ne (c := 10) (s := s)
  have h1 := c_l1Parts 10 s (by omega)
  have r1 := roSS (cutAt 10 s)
  have f1 : Fw.frz (.sl true 1 ((cutAt 10 s).map str)) = .sl false 1 ((cutAt 10 s).map str) := by rw [frz_sl, frzStr]
  obtain ⟨k, hk⟩ : ∃ k, (cutAt 10 s).length = k + 1 := ⟨(cutAt 10 s).length - 1, by have := List.length_pos_iff.2 hn0; omega⟩
  unfold linesP
  rw [hk, Nat.add_sub_cancel]
  generalize cutAt 10 s = ls at *
  obtain ⟨ys, hys⟩ : ∃ ys, ys = ls.map str := ⟨_, rfl⟩
  have hyl : ys.length = k + 1 := by rw [hys, List.length_map, hk]
  obtain ⟨z, hz⟩ := at_of (cs := ls) (i := k) (by omega)
  obtain ⟨zs, hzs⟩ : ∃ zs, zs = (if ls.getD k [] = [] then ls.take k else ls).map str := ⟨_, rfl⟩
  have hgd : ls.getD k [] = z := by rw [List.getD_eq_getElem?_getD, hz]; rfl
  rw [hgd] at hzs ⊢
  rw [← hzs]
  rw [← hys] at h1 r1 f1
  have hla := lastI hΩ hyl (by omega)
  have htab := tab
  refine PCtr.walk tab hΩ fn_spec_l2Lines rfl ?_
  generalize PP = P at *
  cbv
  refine call_pf hΩ 3 h1 rfl (fits _) r1 f1 rfl ?_
  cbv
  refine ⟨⟨by show 0 ≤ Ω.ar .sub .i64 (Ω.int (Ω.len ys)) 1; rw [hla]; exact nnI hΩ⟩, str z, by show ys[(Ω.ar .sub .i64 (Ω.int (Ω.len ys)) 1).toNat]? = _; rw [hla, hys]; subst hΩ; show (ls.map str)[k]? = _; rw [List.getElem?_map, hz]; rfl, ?_⟩
  cbv
  refine br (fun h => ?_) (fun h => ?_) <;> cbv
  · have h := seqT hΩ h
    have hsg : Ω.seg 0 (Ω.nat (Ω.ar .sub .i64 (Ω.int (Ω.len ys)) 1)) ys = zs := by
      rw [hla, hzs, if_pos h, hys]; subst hΩ
      show ((ls.map str).take k).drop 0 = _
      rw [List.drop_zero, List.map_take]
    exact ⟨⟨trivial, by show 0 ≤ Ω.ar .sub .i64 (Ω.int (Ω.len ys)) 1; rw [hla]; exact nnI hΩ, Nat.zero_le _, by show Ω.nat (Ω.ar .sub .i64 (Ω.int (Ω.len ys)) 1) ≤ ys.length; rw [hla]; subst hΩ; show k ≤ ys.length; omega⟩, .of (congrArg (A.sl false 1) hsg)⟩
  · have h := seqF hΩ h
    rw [if_neg h, ← hys] at hzs
    exact .of (congrArg (A.sl false 1) hzs.symm)
theorem filt_at {s : List (List UInt8)} {j : Nat} {c : List UInt8} (h : s[j]? = some c) : ((s.take (j + 1)).filter fun w => !decide (w = [])) = ((s.take j).filter fun w => !decide (w = [])) ++ (if c = [] then [] else [c]) := by
  rw [List.take_add_one, h, List.filter_append]
  congr 1
  by_cases hc : c = [] <;> simp [hc]
theorem c_l2Words (s : List UInt8) (hs : s.length ≤ 1048575) : PCtr PP n_spec_l2Words [str s] (.sl true 1 ((wordsP s).map str)) := by
  obtain ⟨Ω, hΩ⟩ : ∃ Ω, Ω = std := ⟨_, rfl⟩
  have hl := cutAt_len (c := 32) (s := s)
  have h1 := c_l1Parts 32 s (by omega)
  have r1 := roSS (cutAt 32 s)
  have f1 : Fw.frz (.sl true 1 ((cutAt 32 s).map str)) = .sl false 1 ((cutAt 32 s).map str) := by rw [frz_sl, frzStr]
  unfold wordsP
  generalize cutAt 32 s = ls at *
  obtain ⟨ys, hys⟩ : ∃ ys, ys = ls.map str := ⟨_, rfl⟩
  have hyl : ys.length = ls.length := by rw [hys, List.length_map]
  rw [← hys] at h1 r1 f1
  obtain ⟨F, hF⟩ : ∃ F : List (List UInt8) → List A, F = fun l => l.map str := ⟨_, rfl⟩
  have hFm : ∀ t : List (List UInt8), t.map str = F t := fun t => by rw [hF]
  have hlen : ∀ t, (F t).length = t.length := fun t => by rw [hF, List.length_map]
  have hap : ∀ t x, Ω.app (Ω.take (Ω.len (F t)) (F t)) [str x] = F (t ++ [x]) := fun t x => by rw [takeAll hΩ, ← hFm, ← hFm, List.map_append]; subst hΩ; rfl
  have hpl : ∀ t x, Ω.plus (Ω.len (F t)) (Ω.len [str x]) = Ω.len (F (t ++ [x])) := fun t x => by rw [← hap, takeAll hΩ]; subst hΩ; exact (List.length_append).symm
  have hF0 : F [] = [] := by rw [hF]; rfl
  obtain ⟨n, hn⟩ : ∃ n, n = ls.length := ⟨_, rfl⟩
  obtain ⟨W, hW⟩ : ∃ W : Nat → List (List UInt8), W = fun i => (ls.take i).filter fun w => !decide (w = []) := ⟨_, rfl⟩
  have hWs : ∀ i c, ls[i]? = some c → W (i + 1) = W i ++ (if c = [] then [] else [c]) := fun i c h => by rw [hW]; exact filt_at h
  have hW0 : W 0 = [] := by rw [hW]; rfl
  have hWn : (ls.filter fun w => !decide (w = [])) = W n := by rw [hW, hn]; simp only [List.take_length]
  have hWl : ∀ i, (W i).length ≤ i := fun i => by rw [hW]; exact Nat.le_trans (List.length_filter_le _ _) (by rw [List.length_take]; omega)
  rw [hWn, hFm]
  clear hW hWn
  have htab := tab
  refine PCtr.walk tab hΩ fn_spec_l2Words rfl ?_
  generalize PP = P at *
  cbv
  refine call_pf hΩ 3 h1 rfl (fits _) r1 f1 rfl ?_
  cbv
  refine loopX htab hΩ (fun i : Nat => ⟨[(3, .vw 0 0 (Ω.len (F (W i)))), (4, .sl false 1 ys), (5, i64 (Ω.int i))], 28, [some ⟨1, F (W i), false⟩]⟩) (fun i => i ≤ n) (fun i => n - i) 0 (Nat.zero_le _)
    ((Sbs.cut 1 rfl).trans (Sbs.mk rfl (by dsimp only; rw [hW0, hF0]; rfl) ⟨by dsimp only; rw [hW0, hF0]; subst hΩ; rfl, rfl, zeroI hΩ, trivial⟩)) (fun i hi => ?_)
  have hol := hlen (W i)
  have hlo : Ω.len (F (W i)) = (F (W i)).length := by subst hΩ; rfl
  have hle : Ω.len (F (W i)) ≤ (F (W i)).length := by rw [hlo]; exact Nat.le_refl _
  have htk : Ω.take (Ω.len (F (W i))) (F (W i)) = F (W i) := takeAll hΩ _
  have hwi := hWl i
  cbv
  refine br (fun h => ?_) (fun h => ?_) <;> cbv
  · replace h := ltI hΩ h
    obtain ⟨c, hcc⟩ := at_of (cs := ls) (by omega : i < _)
    have hst := hWs i c hcc
    have hap0 := hap (W i) c
    have hpl0 := hpl (W i) c
    refine ⟨⟨nnI hΩ⟩, _, rdI hΩ hys hcc, ?_⟩
    cbv
    refine br (fun q => ?_) (fun q => ?_) <;> cbv
    · have q := sneT hΩ q
      rw [if_neg q] at hst
      refine ⟨⟨nnI hΩ⟩, _, rdI hΩ hys hcc, ?_⟩
      cbv
      exact ⟨⟨rfl, okAll rfl, by show (Ω.len (F (W i)) + 1) * 16 ≤ 140737488355328; omega, by show Ω.len (F (W i)) + 1 ≤ 9223372036854775807; omega⟩,
        i + 1, by omega, by omega, (Sbs.cut 1 rfl).trans (Sbs.mk rfl (by show [some (Row.mk 1 (Ω.app (Ω.take (Ω.len (F (W i))) (F (W i))) [str c]) false)] = _; rw [hap0, hst]) ⟨congrArg (A.vw 0 0) (by rw [hst]; exact hpl0), rfl, incI hΩ (by omega), trivial⟩)⟩
    · have q := sneF hΩ q
      rw [if_pos q, List.append_nil] at hst
      exact ⟨i + 1, by omega, by omega, Sbs.mk rfl (by rw [hst]) ⟨by rw [hst]; rfl, rfl, incI hΩ (by omega), trivial⟩⟩
  · replace h := geI hΩ h
    have : i = n := by omega
    subst this
    exact ⟨⟨rfl, hle⟩, .of (congrArg (A.sl true 1) htk)⟩
end Go.Proofs.YtidlnilcdmhkiaaGreatDoor

/- Walks: numbers read from text. Plain theorems. -/
set_option linter.unusedVariables false
set_option linter.unusedSimpArgs false
namespace Go.Proofs.YtidlnilcdmhkiaaGreatDoor
open Go Go.Fw
set_option maxRecDepth 100000
/-- Digits as a number; -1: there is another byte. -/
def numL : List UInt8 → Int → Int
  | [], n => n
  | c :: cs, n => if 48 ≤ c.toNat ∧ c.toNat ≤ 57 then numL cs (10 * n + ((c.toNat : Int) - 48)) else -1
/-- The number of 1 to m digits; -1: none. -/
def numM (m : Nat) (s : List UInt8) : Int := if s.length < 1 ∨ m < s.length then -1 else numL s 0
def numC (s : List UInt8) : Int := numM 3 s
theorem numL_at {s : List UInt8} {i : Nat} {c : UInt8} {n : Int} (h : s[i]? = some c) : numL (s.drop i) n = if 48 ≤ c.toNat ∧ c.toNat ≤ 57 then numL (s.drop (i + 1)) (10 * n + ((c.toNat : Int) - 48)) else -1 := by
  obtain ⟨hi, rfl⟩ := List.getElem?_eq_some_iff.1 h
  rw [List.drop_eq_getElem_cons hi]; rfl
theorem numL_ge : ∀ {s : List UInt8} {n : Int}, 0 ≤ n → numL s n = -1 ∨ 0 ≤ numL s n
  | [], n, h => .inr h
  | c :: cs, n, h => by
    unfold numL
    split
    · rename_i hc; exact numL_ge (by omega)
    · exact .inl rfl
theorem numM_ge (m : Nat) (s : List UInt8) : numM m s = -1 ∨ 0 ≤ numM m s := by
  unfold numM
  split
  · exact .inl rfl
  · exact numL_ge (Int.le_refl 0)
theorem numC_ge (s : List UInt8) : numC s = -1 ∨ 0 ≤ numC s := numM_ge 3 s
theorem stepN {Ω : Opq} (hΩ : Ω = std) {c : UInt8} {n : Int} (h1 : 48 ≤ c.toNat) (h2 : c.toNat ≤ 57) (h3 : 0 ≤ n) (h4 : n ≤ 1000000) : Ω.ar .add .i64 (Ω.ar .mul .i64 10 n) (Ω.wrap .i64 (Ω.ar .sub .u8 (Ω.u8 c) 48)) = 10 * n + ((c.toNat : Int) - 48) := by
  subst hΩ
  show IntKind.i64.wrap (IntKind.i64.wrap (10 * n) + IntKind.i64.wrap (IntKind.u8.wrap ((c.toNat : Int) - 48))) = _
  have e : IntKind.u8.wrap ((c.toNat : Int) - 48) = (c.toNat : Int) - 48 := by
    show ((c.toNat : Int) - 48) % 256 = _
    omega
  rw [e, wrap64 (x := 10 * n) (by omega) (by omega), wrap64 (x := (c.toNat : Int) - 48) (by omega) (by omega), wrap64 (by omega) (by omega)]
theorem stepN2 {Ω : Opq} (hΩ : Ω = std) {c : UInt8} {n : Int} (h1 : 48 ≤ c.toNat) (h2 : c.toNat ≤ 57) (h3 : 0 ≤ n) (h4 : n ≤ 1000000) : Ω.ar .add .i64 (Ω.ar .mul .i64 n 10) (Ω.wrap .i64 (Ω.ar .sub .u8 (Ω.u8 c) 48)) = 10 * n + ((c.toNat : Int) - 48) := by
  rw [← stepN hΩ h1 h2 h3 h4]
  subst hΩ
  show IntKind.i64.wrap (IntKind.i64.wrap (n * 10) + _) = IntKind.i64.wrap (IntKind.i64.wrap (10 * n) + _)
  rw [Int.mul_comm]
theorem u8I {Ω : Opq} (hΩ : Ω = std) (c : UInt8) : Ω.u8 c = (c.toNat : Int) := by subst hΩ; rfl
theorem c_numberM (m : Nat) (hm6 : m ≤ 6) (s : List UInt8) (hs : s.length ≤ 1048576) : PCtr PP n_impl_number [str s, i64 (m : Int)] (i64 (numM m s)) := by
  obtain ⟨Ω, hΩ⟩ : ∃ Ω, Ω = std := ⟨_, rfl⟩
  obtain ⟨r, hr⟩ : ∃ r, r = numM m s := ⟨_, rfl⟩
  rw [← hr]
  unfold numM at hr
  obtain ⟨n, hn⟩ : ∃ n, n = s.length := ⟨_, rfl⟩
  have htab := tab
  refine PCtr.walk tab hΩ fn_impl_number rfl ?_
  generalize PP = P at *
  cbv
  have none : n < 1 ∨ m < n → r = -1 := fun h => by rw [hr, if_pos (by omega)]
  have go : ¬ (n < 1 ∨ m < n) → r = numL s 0 := fun h => by rw [hr, if_neg (by omega)]
  refine br (fun h => ?_) (fun h => ?_) <;> cbv
  · have h := seqT hΩ h
    exact .of (congrArg i64 (none (.inl (by rw [hn, h]; exact Nat.zero_lt_one))).symm)
  have h0 := seqF hΩ h
  have h0 : 0 < n := by rw [hn]; exact List.length_pos_iff.2 h0
  refine br (fun h => ?_) (fun h => ?_) <;> cbv
  · have h : m < n := by have h := gtZt hΩ (iteB hΩ h); subst hΩ; have h : (m : Int) < (s.length : Int) := h; omega
    exact .of (congrArg i64 (none (.inr (by omega))).symm)
  have h3 : n ≤ m := by have h := gtZf hΩ (iteB hΩ h); subst hΩ; have h : (s.length : Int) ≤ (m : Int) := h; omega
  have hrl := go (by omega)
  clear go none hr
  refine loopX htab hΩ (fun i : Nat × Int => ⟨[(0, str s), (5, i64 i.2), (16, i64 (Ω.int (Ω.lenS s))), (17, i64 (Ω.int i.1))], 40, []⟩)
    (fun i => i.1 ≤ n ∧ (0 ≤ i.2 ∧ i.2 ≤ 999999 ∧ (i.1 ≤ 5 → i.2 ≤ 99999) ∧ (i.1 ≤ 4 → i.2 ≤ 9999) ∧ (i.1 ≤ 3 → i.2 ≤ 999) ∧ (i.1 ≤ 2 → i.2 ≤ 99) ∧ (i.1 ≤ 1 → i.2 ≤ 9) ∧ (i.1 ≤ 0 → i.2 ≤ 0)) ∧ r = numL (s.drop i.1) i.2) (fun i => n - i.1) (0, 0)
    ⟨Nat.zero_le _, ⟨Int.le_refl _, by decide, fun _ => by decide, fun _ => by decide, fun _ => by decide, fun _ => by decide, fun _ => by decide, fun _ => Int.le_refl _⟩, hrl⟩ (Sbs.mk rfl rfl ⟨rfl, rfl, rfl, zeroI hΩ, trivial⟩) ?_
  rintro ⟨i, v⟩ ⟨hi, ⟨v0, v1, v2, v3, v4, v5, v6, v7⟩, hv⟩
  dsimp only at hi v0 v1 v2 v3 v4 v5 v6 v7 hv ⊢
  cbv
  refine br (fun h => ?_) (fun h => ?_) <;> cbv
  · have h : i < n := by have h := ltZt hΩ h; subst hΩ; have h : (i : Int) < (s.length : Int) := h; omega
    obtain ⟨c, hc⟩ := at_of (cs := s) (by omega : i < _)
    have hci : s[(Ω.int i).toNat]? = some c := by subst hΩ; exact hc
    rw [numL_at hc] at hv
    have hst := stepN hΩ (c := c) (n := v)
    refine ⟨⟨nnI hΩ⟩, c, hci, ?_⟩
    cbv
    refine br (fun k => ?_) (fun k => ?_)
    · have k : (c.toNat : Int) < 48 := by have k := ltZt hΩ k; subst hΩ; exact k
      rw [if_neg (by omega)] at hv
      cbv
      exact .of (congrArg i64 hv.symm)
    have k1 : (48 : Int) ≤ c.toNat := by have k := ltZf hΩ k; subst hΩ; exact k
    have k1 : 48 ≤ c.toNat := by omega
    cbv
    refine ⟨⟨nnI hΩ⟩, c, hci, ?_⟩
    cbv
    refine br (fun k => ?_) (fun k => ?_)
    · have k : (57 : Int) < c.toNat := by have k := gtZt hΩ (iteB hΩ k); subst hΩ; exact k
      rw [if_neg (by omega)] at hv
      cbv
      exact .of (congrArg i64 hv.symm)
    have k2 : (c.toNat : Int) ≤ 57 := by have k := gtZf hΩ (iteB hΩ k); subst hΩ; exact k
    have k2 : c.toNat ≤ 57 := by omega
    rw [if_pos (by omega)] at hv
    cbv
    refine ⟨⟨nnI hΩ⟩, c, hci, ?_⟩
    cbv
    obtain ⟨d, hd⟩ : ∃ d : Int, d = c.toNat - 48 := ⟨_, rfl⟩
    rw [← hd] at hv hst
    exact ⟨(i + 1, 10 * v + d), ⟨by show i + 1 ≤ n; omega, by show 0 ≤ 10 * v + d ∧ 10 * v + d ≤ 999999 ∧ (i + 1 ≤ 5 → 10 * v + d ≤ 99999) ∧ (i + 1 ≤ 4 → 10 * v + d ≤ 9999) ∧ (i + 1 ≤ 3 → 10 * v + d ≤ 999) ∧ (i + 1 ≤ 2 → 10 * v + d ≤ 99) ∧ (i + 1 ≤ 1 → 10 * v + d ≤ 9) ∧ (i + 1 ≤ 0 → 10 * v + d ≤ 0); omega, hv⟩, by show n - (i + 1) < n - i; omega,
      Sbs.mk rfl rfl ⟨rfl, congrArg i64 (hst (by omega) (by omega) (by omega) (by omega)), rfl, incI hΩ (by omega), trivial⟩⟩
  · have h : n ≤ i := by have h := ltZf hΩ h; subst hΩ; have h : (s.length : Int) ≤ (i : Int) := h; omega
    rw [List.drop_of_length_le (by omega)] at hv
    exact .of (congrArg i64 hv.symm)
theorem c_number (s : List UInt8) (hs : s.length ≤ 1048576) : PCtr PP n_impl_number [str s, i64 3] (i64 (numC s)) := c_numberM 3 (by decide) s hs
/-- The reference's answer. -/
def numRM (m : Nat) (s : List UInt8) : A := .tup [i64 (if numM m s < 0 then 0 else numM m s), boo (decide (0 ≤ numM m s))]
def numR (s : List UInt8) : A := .tup [i64 (if numC s < 0 then 0 else numC s), boo (decide (0 ≤ numC s))]
theorem c_l1NumberM (m : Nat) (hm6 : m ≤ 6) (s : List UInt8) (hs : s.length ≤ 1048576) : PCtr PP n_spec_l1Number [str s, i64 (m : Int)] (numRM m s) := by
  obtain ⟨Ω, hΩ⟩ : ∃ Ω, Ω = std := ⟨_, rfl⟩
  obtain ⟨r, hr⟩ : ∃ r, r = numM m s := ⟨_, rfl⟩
  obtain ⟨R, hR⟩ : ∃ R, R = numRM m s := ⟨_, rfl⟩
  rw [← hR]
  unfold numRM at hR
  rw [← hr] at hR
  have bad : r = -1 → A.tup [i64 0, boo false] = R := fun h => by rw [hR, h]; rfl
  have good : 0 ≤ r → A.tup [i64 r, boo true] = R := fun h => by rw [hR, if_neg (by omega), decide_eq_true h]
  clear hR
  unfold numM at hr
  obtain ⟨n, hn⟩ : ∃ n, n = s.length := ⟨_, rfl⟩
  have hdg := c_l1Digit
  have htab := tab
  refine PCtr.walk tab hΩ fn_spec_l1Number rfl ?_
  generalize PP = P at *
  cbv
  have none : n < 1 ∨ m < n → r = -1 := fun h => by rw [hr, if_pos (by omega)]
  have go : ¬ (n < 1 ∨ m < n) → r = numL s 0 := fun h => by rw [hr, if_neg (by omega)]
  refine br (fun h => ?_) (fun h => ?_) <;> cbv
  · have h : n < 1 := by have h := ltZt hΩ h; subst hΩ; have h : (s.length : Int) < 1 := h; omega
    exact .of (bad (none (.inl h)))
  have h0 : 0 < n := by have h := ltZf hΩ h; subst hΩ; have h : (1 : Int) ≤ (s.length : Int) := h; omega
  refine br (fun h => ?_) (fun h => ?_) <;> cbv
  · have h : m < n := by have h := gtZt hΩ (iteB hΩ h); subst hΩ; have h : (m : Int) < (s.length : Int) := h; omega
    exact .of (bad (none (.inr h)))
  have h3 : n ≤ m := by have h := gtZf hΩ (iteB hΩ h); subst hΩ; have h : (s.length : Int) ≤ (m : Int) := h; omega
  have hrl := go (by omega)
  clear go none hr
  refine loopX htab hΩ (fun i : Nat × Int => ⟨[(0, str s), (6, i64 i.2), (7, i64 (Ω.int i.1))], 37, []⟩)
    (fun i => i.1 ≤ n ∧ (0 ≤ i.2 ∧ i.2 ≤ 999999 ∧ (i.1 ≤ 5 → i.2 ≤ 99999) ∧ (i.1 ≤ 4 → i.2 ≤ 9999) ∧ (i.1 ≤ 3 → i.2 ≤ 999) ∧ (i.1 ≤ 2 → i.2 ≤ 99) ∧ (i.1 ≤ 1 → i.2 ≤ 9) ∧ (i.1 ≤ 0 → i.2 ≤ 0)) ∧ r = numL (s.drop i.1) i.2) (fun i => n - i.1) (0, 0)
    ⟨Nat.zero_le _, ⟨Int.le_refl _, by decide, fun _ => by decide, fun _ => by decide, fun _ => by decide, fun _ => by decide, fun _ => by decide, fun _ => Int.le_refl _⟩, hrl⟩ (Sbs.mk rfl rfl ⟨rfl, rfl, zeroI hΩ, trivial⟩) ?_
  rintro ⟨i, v⟩ ⟨hi, ⟨v0, v1, v2, v3, v4, v5, v6, v7⟩, hv⟩
  dsimp only at hi v0 v1 v2 v3 v4 v5 v6 v7 hv ⊢
  cbv
  refine br (fun h => ?_) (fun h => ?_) <;> cbv
  · have h : i < n := by have h := ltZt hΩ h; subst hΩ; have h : (i : Int) < (s.length : Int) := h; omega
    obtain ⟨c, hc⟩ := at_of (cs := s) (by omega : i < _)
    have hci : s[(Ω.int i).toNat]? = some c := by subst hΩ; exact hc
    rw [numL_at hc] at hv
    have hst := stepN2 hΩ (c := c) (n := v)
    have hfit : [A.sc (.int .u8 (Ω.u8 c))] = [u8 c] := congrArg (fun z => [A.sc (.int .u8 z)]) (u8I hΩ c)
    have hdc := hdg c
    have hdB : digitB c = true → 48 ≤ c.toNat ∧ c.toNat ≤ 57 := fun h => by simp only [digitB, Bool.and_eq_true, decide_eq_true_eq] at h; omega
    have hdF : digitB c = false → ¬ (48 ≤ c.toNat ∧ c.toNat ≤ 57) := fun h => by simp only [digitB, Bool.and_eq_false_iff, decide_eq_false_iff_not] at h; omega
    generalize digitB c = dg at *
    refine ⟨⟨nnI hΩ⟩, c, hci, ?_⟩
    cbv
    refine call_pure hΩ 3 hdc rfl (fitsE hfit) rfl rfl ?_
    cbv
    refine br (fun k => ?_) (fun k => ?_) <;> cbv
    · rw [if_neg (hdF (notT' hΩ k))] at hv
      exact .of (bad hv)
    have k := hdB (notF' hΩ k)
    rw [if_pos k] at hv
    refine ⟨⟨nnI hΩ⟩, c, hci, ?_⟩
    cbv
    obtain ⟨d, hd⟩ : ∃ d : Int, d = c.toNat - 48 := ⟨_, rfl⟩
    rw [← hd] at hv hst
    exact ⟨(i + 1, 10 * v + d), ⟨by show i + 1 ≤ n; omega, by show 0 ≤ 10 * v + d ∧ 10 * v + d ≤ 999999 ∧ (i + 1 ≤ 5 → 10 * v + d ≤ 99999) ∧ (i + 1 ≤ 4 → 10 * v + d ≤ 9999) ∧ (i + 1 ≤ 3 → 10 * v + d ≤ 999) ∧ (i + 1 ≤ 2 → 10 * v + d ≤ 99) ∧ (i + 1 ≤ 1 → 10 * v + d ≤ 9) ∧ (i + 1 ≤ 0 → 10 * v + d ≤ 0); omega, hv⟩, by show n - (i + 1) < n - i; omega,
      Sbs.mk rfl rfl ⟨rfl, congrArg i64 (hst (by omega) (by omega) (by omega) (by omega)), incI hΩ (by omega), trivial⟩⟩
  · have h : n ≤ i := by have h := ltZf hΩ h; subst hΩ; have h : (s.length : Int) ≤ (i : Int) := h; omega
    rw [List.drop_of_length_le (by omega)] at hv
    have hv : r = v := hv
    exact .of (by have := good (by omega); rw [hv] at this; exact this)
theorem c_l1Number (s : List UInt8) (hs : s.length ≤ 1048576) : PCtr PP n_spec_l1Number [str s, i64 3] (numR s) := c_l1NumberM 3 (by decide) s hs
end Go.Proofs.YtidlnilcdmhkiaaGreatDoor

/- Walks: versions read from text. Plain theorems. -/
set_option linter.unusedVariables false
set_option linter.unusedSimpArgs false
namespace Go.Proofs.YtidlnilcdmhkiaaGreatDoor
open Go Go.Fw
set_option maxRecDepth 100000
def numAt (ps : List (List UInt8)) (k : Nat) : Int := match ps[k]? with
  | some p => numC p
  | none => 0
def verOK (ps : List (List UInt8)) : Bool := decide (ps.length ≤ 3) && ps.all fun p => decide (0 ≤ numC p)
/-- A version read: code and version. -/
def verP (s : List UInt8) : Int × Ver := if verOK (cutAt 46 s) then (0, ⟨numAt (cutAt 46 s) 0, numAt (cutAt 46 s) 1, numAt (cutAt 46 s) 2⟩) else (5, Ver.zero)
def verA (x : Int × Ver) : A := .agg [i64 x.1, i64 x.2.a, i64 x.2.b, i64 x.2.c]
def partAt (ps : List (List UInt8)) (k i : Nat) : Int := if k < i then numAt ps k else 0
theorem partAt_new {ps : List (List UInt8)} {i : Nat} {p : List UInt8} (h : ps[i]? = some p) : partAt ps i (i + 1) = numC p := by
  unfold partAt numAt; rw [if_pos (by omega), h]
theorem partAt_old {ps : List (List UInt8)} {k i : Nat} (h : k ≠ i) : partAt ps k (i + 1) = partAt ps k i := by
  unfold partAt
  by_cases hk : k < i
  · rw [if_pos hk, if_pos (by omega)]
  · rw [if_neg hk, if_neg (by omega)]
theorem partAt_end {ps : List (List UInt8)} {k : Nat} : partAt ps k ps.length = numAt ps k := by
  unfold partAt
  split
  · rfl
  · unfold numAt; rw [List.getElem?_eq_none (by omega)]
theorem all_at {ps : List (List UInt8)} {i : Nat} {p : List UInt8} {q : List UInt8 → Bool} (h : ps[i]? = some p) : (ps.drop i).all q = (q p && (ps.drop (i + 1)).all q) := by
  obtain ⟨hi, rfl⟩ := List.getElem?_eq_some_iff.1 h
  rw [List.drop_eq_getElem_cons hi]; rfl
theorem c_implParseVersion (s : List UInt8) (hs : s.length ≤ 1048575) : PCtr PP n_impl_ParseVersion [str s] (verA (verP s)) := by
  obtain ⟨Ω, hΩ⟩ : ∃ Ω, Ω = std := ⟨_, rfl⟩
  have hl := cutAt_len (c := 46) (s := s)
  have hme := fun l => cutAt_mem (c := 46) (s := s) (l := l)
  have h1 := c_Split 46 s (by omega)
  have r1 := roSS (cutAt 46 s)
  have f1 : Fw.frz (.sl true 1 ((cutAt 46 s).map str)) = .sl false 1 ((cutAt 46 s).map str) := by rw [frz_sl, frzStr]
  unfold verP
  generalize cutAt 46 s = ps at *
  obtain ⟨ys, hys⟩ : ∃ ys, ys = ps.map str := ⟨_, rfl⟩
  have hyl : ys.length = ps.length := by rw [hys, List.length_map]
  rw [← hys] at h1 r1 f1
  obtain ⟨n, hn⟩ : ∃ n, n = ps.length := ⟨_, rfl⟩
  have hnum := c_number
  obtain ⟨R, hR⟩ : ∃ R, R = verA (if verOK ps then (0, ⟨numAt ps 0, numAt ps 1, numAt ps 2⟩) else (5, Ver.zero)) := ⟨_, rfl⟩
  rw [← hR]
  have bad : verOK ps = false → A.agg [i64 5, i64 0, i64 0, i64 0] = R := fun h => by rw [hR, h]; rfl
  have good : verOK ps = true → A.agg [i64 0, i64 (numAt ps 0), i64 (numAt ps 1), i64 (numAt ps 2)] = R := fun h => by rw [hR, h]; rfl
  clear hR
  have hn3 : 3 < n → verOK ps = false := fun h => by unfold verOK; rw [decide_eq_false (by omega)]; rfl
  have hok : n ≤ 3 → verOK ps = (ps.drop 0).all fun p => decide (0 ≤ numC p) := fun h => by unfold verOK; rw [decide_eq_true (by omega)]; rfl
  generalize verOK ps = b at *
  have pnew := fun i p => partAt_new (ps := ps) (i := i) (p := p)
  have pold := fun k i => partAt_old (ps := ps) (k := k) (i := i)
  have pend := fun k => partAt_end (ps := ps) (k := k)
  have p0 : ∀ k, partAt ps k 0 = 0 := fun k => rfl
  generalize partAt ps = g at *
  have htab := tab
  refine PCtr.walk tab hΩ fn_impl_ParseVersion rfl ?_
  generalize PP = P at *
  cbv
  refine call_pf hΩ 3 h1 rfl (fits _) r1 f1 rfl ?_
  cbv
  refine br (fun h => ?_) (fun h => ?_) <;> cbv
  · have h : 3 < n := by have h := gtZt hΩ h; subst hΩ; have h : (3 : Int) < (ys.length : Int) := h; omega
    exact .of (bad (hn3 h))
  have h3 : n ≤ 3 := by have h := gtZf hΩ h; subst hΩ; have h : (ys.length : Int) ≤ 3 := h; omega
  have hok := hok h3
  clear hn3
  refine loopX htab hΩ (fun i : Nat => ⟨[(4, .pt 1 0 0), (2, .pt 0 0 0), (14, .sl false 1 ys), (15, i64 (Ω.int (Ω.len ys))), (16, i64 (i : Int))], 39,
    [some ⟨4, [.agg [i64 0, i64 0, i64 0, i64 0]], true⟩, some ⟨3, [.agg [i64 (g 0 i), i64 (g 1 i), i64 (g 2 i)]], true⟩]⟩) (fun i => i ≤ n ∧ b = (ps.drop i).all fun p => decide (0 ≤ numC p)) (fun i => n - i) 0 ⟨Nat.zero_le _, hok⟩
    (Sbs.mk rfl (by dsimp only; rw [p0, p0, p0]; rfl) ⟨rfl, rfl, rfl, rfl, rfl, trivial⟩) (fun i hi => ?_)
  obtain ⟨hi, hb⟩ := hi
  cbv
  refine br (fun h => ?_) (fun h => ?_) <;> cbv
  · have h : i < n := by have h := ltZt hΩ h; subst hΩ; have h : (i : Int) < (ys.length : Int) := h; omega
    obtain ⟨p, hp⟩ := at_of (cs := ps) (by omega : i < _)
    rw [all_at hp] at hb
    have hnp := hnum p (Nat.le_trans (hme p (List.mem_of_getElem? hp)) (by omega))
    have pn := pnew i p hp
    have hge := numC_ge p
    have hyp : ys[((i : Nat) : Int).toNat]? = some (str p) := by rw [hys, Int.toNat_natCast, List.getElem?_map, hp]; rfl
    refine ⟨⟨Int.natCast_nonneg i⟩, str p, hyp, ?_⟩
    generalize numC p = v at *
    cbv
    refine call_pure hΩ 3 hnp rfl (fits _) rfl rfl ?_
    cbv
    rcases (by omega : i = 0 ∨ i = 1 ∨ i = 2) with rfl | rfl | rfl
    · cbv
      refine ⟨⟨by decide, by decide⟩, ⟨by decide, by decide⟩, ?_⟩
      refine br (fun k => ?_) (fun k => ?_) <;> cbv
      · have k := ltZt hΩ k
        rw [decide_eq_false (by omega)] at hb
        exact .of (bad hb)
      · have k := ltZf hΩ k
        rw [decide_eq_true k, Bool.true_and] at hb
        exact ⟨1, ⟨by omega, hb⟩, by omega, Sbs.mk rfl (congrArg (fun z => [some (Row.mk 4 [A.agg [i64 0, i64 0, i64 0, i64 0]] true), some (Row.mk 3 [A.agg z] true)]) (show [i64 v, i64 (g 1 0), i64 (g 2 0)] = [i64 (g 0 1), i64 (g 1 1), i64 (g 2 1)] by rw [show g 0 1 = v from pn, show g 1 1 = g 1 0 from pold 1 0 (by decide), show g 2 1 = g 2 0 from pold 2 0 (by decide)])) ⟨rfl, rfl, rfl, rfl, congrArg i64 (by subst hΩ; rfl), trivial⟩⟩
    · cbv
      refine ⟨⟨by decide, by decide⟩, ⟨by decide, by decide⟩, ?_⟩
      refine br (fun k => ?_) (fun k => ?_) <;> cbv
      · have k := ltZt hΩ k
        rw [decide_eq_false (by omega)] at hb
        exact .of (bad hb)
      · have k := ltZf hΩ k
        rw [decide_eq_true k, Bool.true_and] at hb
        exact ⟨2, ⟨by omega, hb⟩, by omega, Sbs.mk rfl (congrArg (fun z => [some (Row.mk 4 [A.agg [i64 0, i64 0, i64 0, i64 0]] true), some (Row.mk 3 [A.agg z] true)]) (show [i64 (g 0 1), i64 v, i64 (g 2 1)] = [i64 (g 0 2), i64 (g 1 2), i64 (g 2 2)] by rw [show g 1 2 = v from pn, show g 0 2 = g 0 1 from pold 0 1 (by decide), show g 2 2 = g 2 1 from pold 2 1 (by decide)])) ⟨rfl, rfl, rfl, rfl, congrArg i64 (by subst hΩ; rfl), trivial⟩⟩
    · cbv
      refine ⟨⟨by decide, by decide⟩, ⟨by decide, by decide⟩, ?_⟩
      refine br (fun k => ?_) (fun k => ?_) <;> cbv
      · have k := ltZt hΩ k
        rw [decide_eq_false (by omega)] at hb
        exact .of (bad hb)
      · have k := ltZf hΩ k
        rw [decide_eq_true k, Bool.true_and] at hb
        exact ⟨3, ⟨by omega, hb⟩, by omega, Sbs.mk rfl (congrArg (fun z => [some (Row.mk 4 [A.agg [i64 0, i64 0, i64 0, i64 0]] true), some (Row.mk 3 [A.agg z] true)]) (show [i64 (g 0 2), i64 (g 1 2), i64 v] = [i64 (g 0 3), i64 (g 1 3), i64 (g 2 3)] by rw [show g 2 3 = v from pn, show g 0 3 = g 0 2 from pold 0 2 (by decide), show g 1 3 = g 1 2 from pold 1 2 (by decide)])) ⟨rfl, rfl, rfl, rfl, congrArg i64 (by subst hΩ; rfl), trivial⟩⟩
  · have h : n ≤ i := by have h := ltZf hΩ h; subst hΩ; have h : (ys.length : Int) ≤ (i : Int) := h; omega
    have hin : i = ps.length := by omega
    rw [List.drop_of_length_le (by omega)] at hb
    have hb : b = true := hb
    have e : A.agg [i64 0, i64 (g 0 i), i64 (g 1 i), i64 (g 2 i)] = R := by rw [hin, pend, pend, pend]; exact good hb
    refine ⟨⟨by decide, by decide⟩, ⟨by decide, by decide⟩, ⟨by decide, by decide⟩, ?_⟩
    cbv
    exact .of e
theorem c_specParseVersion (s : List UInt8) (hs : s.length ≤ 1048575) : PCtr PP n_spec_ParseVersion [str s] (verA (verP s)) := by
  obtain ⟨Ω, hΩ⟩ : ∃ Ω, Ω = std := ⟨_, rfl⟩
  have hl := cutAt_len (c := 46) (s := s)
  have hme := fun l => cutAt_mem (c := 46) (s := s) (l := l)
  have h1 := c_l1Parts 46 s (by omega)
  have r1 := roSS (cutAt 46 s)
  have f1 : Fw.frz (.sl true 1 ((cutAt 46 s).map str)) = .sl false 1 ((cutAt 46 s).map str) := by rw [frz_sl, frzStr]
  unfold verP
  generalize cutAt 46 s = ps at *
  obtain ⟨ys, hys⟩ : ∃ ys, ys = ps.map str := ⟨_, rfl⟩
  have hyl : ys.length = ps.length := by rw [hys, List.length_map]
  rw [← hys] at h1 r1 f1
  obtain ⟨n, hn⟩ : ∃ n, n = ps.length := ⟨_, rfl⟩
  have hnum := c_l1Number
  obtain ⟨R, hR⟩ : ∃ R, R = verA (if verOK ps then (0, ⟨numAt ps 0, numAt ps 1, numAt ps 2⟩) else (5, Ver.zero)) := ⟨_, rfl⟩
  rw [← hR]
  have bad : verOK ps = false → A.agg [i64 5, i64 0, i64 0, i64 0] = R := fun h => by rw [hR, h]; rfl
  have good : verOK ps = true → A.agg [i64 0, i64 (numAt ps 0), i64 (numAt ps 1), i64 (numAt ps 2)] = R := fun h => by rw [hR, h]; rfl
  clear hR
  have hn3 : 3 < n → verOK ps = false := fun h => by unfold verOK; rw [decide_eq_false (by omega)]; rfl
  have hok : n ≤ 3 → verOK ps = (ps.drop 0).all fun p => decide (0 ≤ numC p) := fun h => by unfold verOK; rw [decide_eq_true (by omega)]; rfl
  generalize verOK ps = b at *
  have pnew := fun i p => partAt_new (ps := ps) (i := i) (p := p)
  have pold := fun k i => partAt_old (ps := ps) (k := k) (i := i)
  have pend := fun k => partAt_end (ps := ps) (k := k)
  have p0 : ∀ k, partAt ps k 0 = 0 := fun k => rfl
  generalize partAt ps = g at *
  have htab := tab
  have hmo : PP.follows .mixedOrders = true := by kernel_rfl
  refine PCtr.walk tab hΩ fn_spec_ParseVersion rfl ?_
  generalize PP = P at *
  cbv
  refine call_pf hΩ 3 h1 rfl (fits _) r1 f1 rfl ?_
  cbv
  refine br (fun h => ?_) (fun h => ?_) <;> cbv
  · have h : 3 < n := by have h := gtZt hΩ h; subst hΩ; have h : (3 : Int) < (ys.length : Int) := h; omega
    exact .of (bad (hn3 h))
  have h3 : n ≤ 3 := by have h := gtZf hΩ h; subst hΩ; have h : (ys.length : Int) ≤ 3 := h; omega
  have hok := hok h3
  clear hn3
  refine loopX htab hΩ (fun i : Nat => ⟨[(2, .pt 0 0 0), (3, .sl false 1 ys), (4, .vw 1 0 3), (5, i64 (Ω.int i))], 47,
    [some ⟨4, [.agg [i64 0, i64 0, i64 0, i64 0]], true⟩, some ⟨1, [i64 (g 0 i), i64 (g 1 i), i64 (g 2 i)], false⟩]⟩) (fun i => i ≤ n ∧ b = (ps.drop i).all fun p => decide (0 ≤ numC p)) (fun i => n - i) 0 ⟨Nat.zero_le _, hok⟩
    (Sbs.mk rfl (by dsimp only; rw [p0, p0, p0]; rfl) ⟨rfl, rfl, rfl, zeroI hΩ, trivial⟩) (fun i hi => ?_)
  obtain ⟨hi, hb⟩ := hi
  cbv
  refine br (fun h => ?_) (fun h => ?_) <;> cbv
  · have h : i < n := by have h := ltZt hΩ h; subst hΩ; have h : (i : Int) < (ys.length : Int) := h; omega
    obtain ⟨p, hp⟩ := at_of (cs := ps) (by omega : i < _)
    rw [all_at hp] at hb
    have hnp := hnum p (Nat.le_trans (hme p (List.mem_of_getElem? hp)) (by omega))
    unfold numR at hnp
    have pn := pnew i p hp
    have hge := numC_ge p
    refine ⟨⟨nnI hΩ⟩, _, rdI hΩ hys hp, ?_⟩
    generalize numC p = v at *
    obtain ⟨x, hx⟩ : ∃ x, x = if v < 0 then 0 else v := ⟨_, rfl⟩
    obtain ⟨q, hq⟩ : ∃ q, q = decide (0 ≤ v) := ⟨_, rfl⟩
    rw [← hx, ← hq] at hnp
    rw [← hq] at hb
    cbv
    refine call_pure hΩ 3 hnp rfl (fits _) rfl rfl ?_
    cbv
    refine br (fun k => ?_) (fun k => ?_) <;> cbv
    · rw [notT' hΩ k] at hb
      exact .of (bad hb)
    · have k := notF' hΩ k
      have hv : 0 ≤ v := by rw [k] at hq; exact of_decide_eq_true hq.symm
      rw [if_neg (by omega)] at hx
      subst hx
      rw [k, Bool.true_and] at hb
      have hset : Ω.set [i64 (g 0 i), i64 (g 1 i), i64 (g 2 i)] (Ω.plus 0 (Ω.nat (Ω.int i))) (i64 x) = [i64 (g 0 (i + 1)), i64 (g 1 (i + 1)), i64 (g 2 (i + 1))] := by
        subst hΩ
        show List.set [i64 (g 0 i), i64 (g 1 i), i64 (g 2 i)] (0 + i) (i64 x) = _
        rw [Nat.zero_add]
        rcases (by omega : i = 0 ∨ i = 1 ∨ i = 2) with rfl | rfl | rfl
        · rw [pn, pold 1 0 (by decide), pold 2 0 (by decide)]; rfl
        · rw [pn, pold 0 1 (by decide), pold 2 1 (by decide)]; rfl
        · rw [pn, pold 0 2 (by decide), pold 1 2 (by decide)]; rfl
      refine ⟨⟨nnI hΩ, by subst hΩ; show (i : Int) < 3; omega⟩, ⟨by subst hΩ; show 0 + i < 3; omega, fun z hz => ?_⟩, i + 1, ⟨by omega, hb⟩, by omega,
        Sbs.mk rfl (congrArg (fun z => [some (Row.mk 4 [A.agg [i64 0, i64 0, i64 0, i64 0]] true), some (Row.mk 1 z false)]) hset) ⟨rfl, rfl, rfl, incI hΩ (by omega), trivial⟩⟩
      rcases List.mem_cons.1 hz with rfl | hz
      · rfl
      rcases List.mem_cons.1 hz with rfl | hz
      · rfl
      rcases List.mem_cons.1 hz with rfl | hz
      · rfl
      cases hz
  · have h : n ≤ i := by have h := ltZf hΩ h; subst hΩ; have h : (ys.length : Int) ≤ (i : Int) := h; omega
    have hin : i = ps.length := by omega
    rw [List.drop_of_length_le (by omega)] at hb
    have hb : b = true := hb
    have e : A.agg [i64 0, i64 (g 0 i), i64 (g 1 i), i64 (g 2 i)] = R := by rw [hin, pend, pend, pend]; exact good hb
    refine ⟨VC.sub (VC_lord htab hΩ hmo [0, 1, 2, 3, 4, 5, 6, 7, 8] (.step 9 (.step 10 (.step 11 .fin))) [] [] (by kernel_rfl) ?_) (Sbs.thaw0 (r := 1) rfl rfl rfl)⟩
    cbv
    refine ⟨⟨Int.le_refl 0⟩, i64 (g 0 i), rfl, ?_⟩
    cbv
    refine ⟨⟨by decide⟩, i64 (g 1 i), rfl, ?_⟩
    cbv
    refine ⟨⟨by decide⟩, i64 (g 2 i), rfl, ?_⟩
    cbv
    intro vs
    cbv
    exact .of e
end Go.Proofs.YtidlnilcdmhkiaaGreatDoor

/- Results of changes: alike, marked, held. Plain theorems. -/
set_option linter.unusedVariables false
set_option linter.unusedSimpArgs false
namespace Go.Proofs.YtidlnilcdmhkiaaGreatDoor
open Go Go.Fw
set_option maxRecDepth 100000
theorem c_eqChangesResult (k a : Int) (g : List Chg) (hg : g.length ≤ 1048576) : PCtr PP n_laws_eqChangesResult [.agg [i64 k, i64 a, .sl false 8 (g.map Chg.enc)], .agg [i64 k, i64 a, .sl false 8 (g.map Chg.enc)]] (boo true) := by
  obtain ⟨Ω, hΩ⟩ : ∃ Ω, Ω = std := ⟨_, rfl⟩
  have h1 := c_eqChangeS g (by omega)
  generalize g.map Chg.enc = xs at *
  have htab := tab
  have hmo := hmo
  refine PCtr.walk tab hΩ fn_laws_eqChangesResult rfl ?_
  generalize PP = P at *
  cbv
  repeat' (first | (refine br (fun h => (notT hΩ h).elim) (fun h => ?_); cbv) | (refine br (fun h => (ne_self hΩ h).elim) (fun h => ?_); cbv) | (refine ⟨VC_drawn htab hΩ hmo (by kernel_rfl) ?_⟩; cbv) | (refine call_pure hΩ 3 h1 rfl (fits _) rfl rfl ?_; cbv) | (refine QCall_pure (k := 3) h1 rfl (fits _) rfl ?_; cbv))
  exact .same
theorem c_heldChangeS (n : Nat) (k : Int) (h0 : 0 ≤ k) (h1 : k ≤ 1099511627776) (hb : n ≤ 1048576) :
    PCtr PP n_laws_heldChangeS [.sl false 8 ((marksC k n).map Chg.enc), i64 k] (i64 (k + 8 * n)) := by
  obtain ⟨Ω, hΩ⟩ : ∃ Ω, Ω = std := ⟨_, rfl⟩
  obtain ⟨ms, hms⟩ : ∃ ms, ms = (marksC k n).map Chg.enc := ⟨_, rfl⟩
  have hml : ms.length = n := by rw [hms, List.length_map, marksC_length]
  obtain ⟨kf, hk0, hkm, hkn, hkb⟩ : ∃ kf : Nat → Int, kf 0 = k ∧
      (∀ i, i < n → ms[i]? = some (Chg.enc ⟨kf i, markT (inc (kf i)), ⟨inc (inc (kf i)), inc (inc (inc (kf i))), inc (inc (inc (inc (kf i))))⟩, ⟨inc (inc (inc (inc (inc (kf i))))), inc (inc (inc (inc (inc (inc (kf i)))))), inc (inc (inc (inc (inc (inc (inc (kf i)))))))⟩⟩) ∧
        inc (inc (inc (inc (inc (inc (inc (inc (kf i)))))))) = kf (i + 1)) ∧ kf n = k + 8 * n ∧ ∀ i, i < n → inc (kf i) ≤ 1152921504606846976 := by
    refine ⟨fun i => k + 8 * i, by simp, fun i hi => ?_, rfl, fun i hi => ?_⟩
    · have h := mark_inc (k := k + 8 * i) (by omega) (by omega)
      simp only
      rw [hms, List.getElem?_map, marksC_at hi, ← h.1, h.2]
      exact ⟨rfl, by omega⟩
    · simp only; rw [inc_eq (by omega) (by omega)]; omega
  rw [← hms, ← hkn]
  have hc := c_markText
  have hinc : ∀ x, i64 (Ω.ar .add .i64 x 1) = i64 (inc x) := fun x => by subst hΩ; rfl
  have htab := tab
  have hmo := hmo
  refine PCtr.walk tab hΩ fn_laws_heldChangeS rfl ?_
  generalize PP = P at *
  cbv
  refine loopX htab hΩ (fun i : Nat => ⟨[(0, .sl false 8 ms), (1, .sc (.int .i64 (kf i))), (5, .sc (.int .i64 (Ω.int i)))], 92, []⟩) (fun i => i ≤ n) (fun i => n - i) 0 (Nat.zero_le _)
    (Sbs.mk rfl rfl ⟨rfl, congrArg i64 hk0.symm, zeroI hΩ, trivial⟩) (fun i hi => ?_)
  cbv
  refine br (fun h => ?_) (fun h => ?_)
  · replace h : i < n := by have := ltI hΩ h; omega
    obtain ⟨hat, hnx⟩ := hkm i h
    have hcc := hc (Ω.ar .add .i64 (kf i) 1) (by subst hΩ; exact hkb i h)
    generalize hmt : markT (Ω.ar .add .i64 (kf i) 1) = mt at *
    have hat : ms[i]? = some (.agg [i64 (kf i), str mt, i64 (Ω.ar .add .i64 (Ω.ar .add .i64 (kf i) 1) 1), i64 (Ω.ar .add .i64 (Ω.ar .add .i64 (Ω.ar .add .i64 (kf i) 1) 1) 1), i64 (Ω.ar .add .i64 (Ω.ar .add .i64 (Ω.ar .add .i64 (Ω.ar .add .i64 (kf i) 1) 1) 1) 1),
      i64 (Ω.ar .add .i64 (Ω.ar .add .i64 (Ω.ar .add .i64 (Ω.ar .add .i64 (Ω.ar .add .i64 (kf i) 1) 1) 1) 1) 1), i64 (Ω.ar .add .i64 (Ω.ar .add .i64 (Ω.ar .add .i64 (Ω.ar .add .i64 (Ω.ar .add .i64 (Ω.ar .add .i64 (kf i) 1) 1) 1) 1) 1) 1), i64 (Ω.ar .add .i64 (Ω.ar .add .i64 (Ω.ar .add .i64 (Ω.ar .add .i64 (Ω.ar .add .i64 (Ω.ar .add .i64 (Ω.ar .add .i64 (kf i) 1) 1) 1) 1) 1) 1) 1)]) := by
      rw [hat, ← hmt]; subst hΩ; rfl
    have hrd := rdJ hΩ hat
    clear hkm hms hat hc
    cbv
    repeat' (first
      | (refine br (fun h => (neSame hΩ h rfl).elim) (fun h => ?_); cbv)
      | (refine br (fun h => (sne_self hΩ h).elim) (fun h => ?_); cbv)
      | (refine ⟨⟨nnI hΩ⟩, _, hrd, ?_⟩; cbv)
      | (refine ⟨VC_drawn htab hΩ hmo (by kernel_rfl) ?_⟩; cbv)
      | (refine QCall_pure (k := 3) hcc rfl (fits _) rfl ?_; cbv))
    exact ⟨i + 1, by omega, by omega, Sbs.mk rfl rfl ⟨rfl, by subst hΩ; exact congrArg i64 hnx, incI hΩ (by omega), trivial⟩⟩
  · replace h : i = n := by have := geI hΩ h; omega
    subst h
    cbv
    exact .same
theorem c_heldChangesResult (a b : Int) (n : Nat) (k : Int) (h0 : 0 ≤ k) (h1 : k ≤ 1099511627776) (hb : n ≤ 1048576) :
    PCtr PP n_laws_heldChangesResult [.agg [i64 a, i64 b, .sl false 8 ((marksC k n).map Chg.enc)], i64 k] (i64 (k + 8 * n)) := by
  obtain ⟨Ω, hΩ⟩ : ∃ Ω, Ω = std := ⟨_, rfl⟩
  have h := c_heldChangeS n k h0 h1 hb
  generalize (marksC k n).map Chg.enc = ms at *
  obtain ⟨kk, hkk, hk0⟩ : ∃ kk : Int, kk = k + 8 * n ∧ 0 ≤ kk := ⟨_, rfl, by omega⟩
  rw [← hkk] at h ⊢
  clear hkk
  have htab := tab
  have hmo := hmo
  refine PCtr.walk tab hΩ fn_laws_heldChangesResult rfl ?_
  generalize PP = P at *
  cbv
  refine call_pure hΩ 3 h rfl (fits _) rfl rfl ?_
  cbv
  refine br (fun h => absurd (ltI_t hΩ h) (Int.not_lt.2 hk0)) (fun h => ?_)
  cbv
  exact .same
theorem c_markChangesResult (a b : Int) (cs : List Chg) (k : Int) (h0 : 0 ≤ k) (h1 : k ≤ 1099511627776) (hb : cs.length ≤ 1048576) :
    MCtr PP n_laws_markChangesResult [.agg [i64 a, i64 b, .sl true 8 (cs.map Chg.enc)], i64 k] (i64 (k + 8 * cs.length)) [.agg [i64 a, i64 b, .sl true 8 ((marksC k cs.length).map Chg.enc)], i64 k] := by
  obtain ⟨Ω, hΩ⟩ : ∃ Ω, Ω = std := ⟨_, rfl⟩
  have h := c_markChangeS cs k h0 h1 hb
  have hml : ((marksC k cs.length).map Chg.enc).length = (cs.map Chg.enc).length := by rw [List.length_map, marksC_length, List.length_map]
  generalize (marksC k cs.length).map Chg.enc = ms at *
  generalize cs.map Chg.enc = xs at *
  generalize k + 8 * (cs.length : Int) = kk at *
  have hl : Ω.len xs = xs.length := by subst hΩ; rfl
  have hlm : Ω.len xs = ms.length := by omega
  have htab := tab
  refine MCtr.walkO tab hΩ 3 fn_laws_markChangesResult rfl rfl rfl ?_
  generalize PP = P at *
  cbv
  refine call_mut hΩ 3 (l := [(0, ms)] ++ ([] ++ [])) h (.cons (mutVw rfl hl hml) (.cons (.data rfl rfl) .nil)) (by simp) rfl ?_
  cbv
  exact ⟨⟨rfl, Nat.le_of_eq hlm⟩, .same, .of (congrArg (fun z => [A.agg [i64 a, i64 b, A.sl true 8 z], i64 k]) (takeI hΩ hlm.symm))⟩
theorem roF_chgR (k a : Int) (g : List Chg) : roFree (.agg [i64 k, i64 a, .sl true 8 (g.map Chg.enc)]) = true := by
  rw [roFree_agg]
  have : roFree (.sl true 8 (g.map Chg.enc)) = true := roFAll fun x hx => by obtain ⟨c, _, rfl⟩ := List.mem_map.1 hx; rfl
  simp only [List.all_cons, List.all_nil, this]
  rfl
theorem frz_Cg (cs : List Chg) : (cs.map Chg.enc).map frz = cs.map Chg.enc := by
  rw [List.map_map]; exact List.map_congr_left fun c _ => rfl
end Go.Proofs.YtidlnilcdmhkiaaGreatDoor

/- Walks: lists of changes read from text. Plain theorems. -/
set_option linter.unusedVariables false
set_option linter.unusedSimpArgs false
namespace Go.Proofs.YtidlnilcdmhkiaaGreatDoor
open Go Go.Fw
set_option maxRecDepth 100000
theorem words_len {s : List UInt8} : (wordsP s).length ≤ s.length + 1 := by
  unfold wordsP
  exact Nat.le_trans (List.length_filter_le _ _) cutAt_len
theorem words_mem {s w : List UInt8} (h : w ∈ wordsP s) : w.length ≤ s.length := by
  unfold wordsP at h
  exact cutAt_mem (List.mem_filter.1 h).1
end Go.Proofs.YtidlnilcdmhkiaaGreatDoor

/- Numbers written with so many digits. Plain theorems, no program. -/
set_option linter.unusedVariables false
set_option linter.unusedSimpArgs false
namespace Go.Proofs.YtidlnilcdmhkiaaGreatDoor
open Go Go.Fw
/-- k digits of a number. -/
def digs : Nat → Nat → List UInt8
  | 0, _ => []
  | k + 1, n => digs k (n / 10) ++ [UInt8.ofNat (48 + n % 10)]
theorem digs_len : ∀ (k n : Nat), (digs k n).length = k
  | 0, _ => rfl
  | k + 1, n => by simp [digs, digs_len k]
theorem dec_lead : ∀ (k a n : Nat), 1 ≤ a → a < 10 → n < 10 ^ k → Lib.decDigits (a * 10 ^ k + n) = UInt8.ofNat (48 + a) :: digs k n
  | 0, a, n, h1, h2, h3 => by
    obtain rfl : n = 0 := by simpa using h3
    simp [digs, decD_small h2]
  | k + 1, a, n, h1, h2, h3 => by
    have hp : 1 ≤ 10 ^ k := Nat.one_le_pow _ _ (by decide)
    have e : a * 10 ^ (k + 1) = 10 * (a * 10 ^ k) := by rw [Nat.pow_succ]; rw [Nat.mul_comm (10 ^ k) 10, ← Nat.mul_assoc, Nat.mul_comm a 10, Nat.mul_assoc]
    have hle : 1 ≤ a * 10 ^ k := Nat.mul_pos h1 hp
    have hd : (a * 10 ^ (k + 1) + n) / 10 = a * 10 ^ k + n / 10 := by rw [e]; omega
    have hm : (a * 10 ^ (k + 1) + n) % 10 = n % 10 := by rw [e]; omega
    rw [decD_big (by rw [e]; omega), hd, hm, dec_lead k a (n / 10) h1 h2 (by rw [Nat.pow_succ] at h3; omega)]
    rfl
theorem rep_snoc (s : List UInt8) : ∀ c : Nat, Lib.repeatL s (c + 1) = Lib.repeatL s c ++ s
  | 0 => by simp [Lib.repeatL]
  | c + 1 => by
    show s ++ Lib.repeatL s (c + 1) = (s ++ Lib.repeatL s c) ++ s
    rw [rep_snoc s c, List.append_assoc]
theorem digs_zero : ∀ k : Nat, digs k 0 = Lib.repeatL [48] k
  | 0 => rfl
  | k + 1 => by rw [digs, rep_snoc, Nat.zero_div, digs_zero k]; rfl
theorem pad_digs : ∀ (k n : Nat), n < 10 ^ (k + 1) → Lib.repeatL [48] (k + 1 - (Lib.decDigits n).length) ++ Lib.decDigits n = digs (k + 1) n
  | k, n, h => by
    rcases Nat.lt_or_ge n 10 with h1 | h1
    · rw [decD_small h1, digs, show n / 10 = 0 by omega, digs_zero, show n % 10 = n by omega]
      rfl
    · cases k with
      | zero => simp at h; omega
      | succ k =>
        have ih := pad_digs k (n / 10) (by rw [Nat.pow_succ] at h; omega)
        rw [decD_big h1, digs, ← ih, List.length_append, List.length_singleton, List.append_assoc]
        congr 2
        omega
/-- Digits that are read, written again. -/
theorem digs_numL : ∀ (s : List UInt8) (k a : Nat), 0 ≤ numL s (a : Int) → ∃ m : Nat, numL s (a : Int) = m ∧ digs (k + s.length) m = digs k a ++ s ∧ m < (a + 1) * 10 ^ s.length
  | [], k, a, h => ⟨a, rfl, by simp, by simp⟩
  | c :: cs, k, a, h => by
    unfold numL at h ⊢
    split at h
    · rename_i hc
      rw [if_pos hc]
      have e : (10 * (a : Int) + ((c.toNat : Int) - 48)) = ((10 * a + (c.toNat - 48) : Nat) : Int) := by omega
      rw [e] at h ⊢
      obtain ⟨m, h1, h2, h3⟩ := digs_numL cs (k + 1) (10 * a + (c.toNat - 48)) h
      refine ⟨m, h1, ?_, ?_⟩
      · rw [List.length_cons, show k + (cs.length + 1) = k + 1 + cs.length by omega, h2, digs, List.append_assoc]
        have e1 : (10 * a + (c.toNat - 48)) / 10 = a := by omega
        have e2 : (10 * a + (c.toNat - 48)) % 10 = c.toNat - 48 := by omega
        have e3 : UInt8.ofNat (48 + (c.toNat - 48)) = c := by rw [show 48 + (c.toNat - 48) = c.toNat by omega]; simp
        rw [e1, e2, e3]; rfl
      · rw [List.length_cons, Nat.pow_succ]
        refine Nat.lt_of_lt_of_le h3 ?_
        have : (10 * a + (c.toNat - 48) + 1) ≤ (a + 1) * 10 := by omega
        calc (10 * a + (c.toNat - 48) + 1) * 10 ^ cs.length ≤ ((a + 1) * 10) * 10 ^ cs.length := Nat.mul_le_mul_right _ this
          _ = (a + 1) * (10 ^ cs.length * 10) := by rw [Nat.mul_assoc, Nat.mul_comm 10]
    · rw [if_neg ‹_›] at *
      exact absurd h (by decide)
end Go.Proofs.YtidlnilcdmhkiaaGreatDoor

/- Walks: the path of a number. Plain theorems. -/
set_option linter.unusedVariables false
set_option linter.unusedSimpArgs false
namespace Go.Proofs.YtidlnilcdmhkiaaGreatDoor
open Go Go.Fw
set_option maxRecDepth 100000
def genH : List UInt8 := [103, 101, 110, 47]
/-- The path of a number: six digits behind a head. -/
def genB (n : Int) : List UInt8 := genH ++ digs 6 n.toNat
theorem c_genPath (n : Int) (h0 : 1 ≤ n) (h1 : n ≤ 999999) : PCtr PP n_impl_genPath [i64 n] (str (genB n)) := by
  obtain ⟨Ω, hΩ⟩ : ∃ Ω, Ω = std := ⟨_, rfl⟩
  have hd := c_dec n (by omega) (by omega)
  obtain ⟨m, rfl⟩ : ∃ m : Nat, n = (m : Int) := ⟨n.toNat, by omega⟩
  have hm1 : m ≤ 999999 := by omega
  obtain ⟨t, ht⟩ : ∃ t, t = Lib.itoa (m : Int) := ⟨_, rfl⟩
  have ht2 : t = Lib.decDigits m := by rw [ht, itoa_dec (by omega)]; rfl
  have htl : t.length ≤ 6 := by rw [ht2]; exact decD_len 5 m (by omega)
  rw [← ht] at hd
  have hr := c_Repeat [48] (6 - t.length) (by decide) (by simp; omega) (by omega)
  have hg : genB (m : Int) = genH ++ (Lib.repeatL [48] (6 - t.length) ++ t) := by
    unfold genB
    rw [ht2, pad_digs 5 m (by omega)]; rfl
  rw [hg]
  have hsub : Ω.ar .sub .i64 6 (Ω.int (Ω.lenS t)) = ((6 - t.length : Nat) : Int) := by
    subst hΩ
    show IntKind.i64.wrap (6 - (t.length : Int)) = _
    rw [wrap64 (by omega) (by omega)]; omega
  have hzl : (Lib.repeatL [48] (6 - t.length)).length ≤ 6 := by
    have h := congrArg List.length (pad_digs 5 m (by omega))
    rw [digs_len, List.length_append] at h
    have h : (Lib.repeatL [48] (6 - (Lib.decDigits m).length)).length + (Lib.decDigits m).length = 6 := h
    rw [ht2]; omega
  generalize Lib.repeatL [48] (6 - t.length) = z at *
  rw [← hsub] at hr
  clear hsub
  generalize (m : Int) = n at *
  unfold genH
  clear ht ht2 hm1 hg
  have hcat : Ω.cat (Ω.cat [103, 101, 110, 47] z) t = [103, 101, 110, 47] ++ (z ++ t) := by subst hΩ; exact List.append_assoc _ _ _
  generalize [103, 101, 110, 47] ++ (z ++ t) = r at *
  have htab := tab
  have hmo := hmo
  refine PCtr.walk tab hΩ fn_impl_genPath rfl ?_
  generalize PP = P at *
  cbv
  refine call_pure hΩ 3 hd rfl (fits _) rfl rfl ?_
  cbv
  refine call_pure hΩ 3 hr rfl (fits _) rfl rfl ?_
  cbv
  exact ⟨⟨by show ((4 + z.length : Nat) : Int) ≤ _; omega⟩, ⟨by subst hΩ; show ((([103, 101, 110, 47] ++ z).length + t.length : Nat) : Int) ≤ _; rw [List.length_append]; show ((4 + z.length + t.length : Nat) : Int) ≤ _; omega⟩, .of (congrArg str hcat)⟩
theorem c_GenPath (n : Int) (h0 : 1 ≤ n) (h1 : n ≤ 999999) : PCtr PP n_spec_GenPath [i64 n] (str (genB n)) := by
  obtain ⟨Ω, hΩ⟩ : ∃ Ω, Ω = std := ⟨_, rfl⟩
  obtain ⟨m, rfl⟩ : ∃ m : Nat, n = (m : Int) := ⟨n.toNat, by omega⟩
  have hd := c_l1Decimal (1000000 + m) (by omega)
  have he : Lib.decDigits (1000000 + m) = UInt8.ofNat (48 + 1) :: digs 6 m := dec_lead 6 1 m (by omega) (by omega) (by omega)
  rw [he] at hd
  have hg : genB (m : Int) = genH ++ digs 6 m := rfl
  rw [hg]
  have hsum : Ω.ar .add .i64 1000000 (m : Int) = ((1000000 + m : Nat) : Int) := by
    subst hΩ
    show IntKind.i64.wrap (1000000 + (m : Int)) = _
    rw [wrap64 (by omega) (by omega)]; omega
  rw [← hsum] at hd
  have hin := c_l1In (m : Int) 1 999999
  have hint : inB (m : Int) 1 999999 = true := by unfold inB; simp; omega
  rw [hint] at hin
  have hzl : (digs 6 m).length = 6 := digs_len 6 m
  generalize digs 6 m = z at *
  clear hsum he hint hg
  generalize (m : Int) = n at *
  unfold genH
  have hsg : ∀ q : UInt8, Ω.segS (Ω.nat 1) (Ω.lenS (q :: z)) (q :: z) = z := fun q => by subst hΩ; show ((q :: z).take (z.length + 1)).drop 1 = z; simp
  have hls : ∀ q : UInt8, Ω.lenS (q :: z) = z.length + 1 := fun q => by subst hΩ; rfl
  have hcat : Ω.cat [103, 101, 110, 47] z = [103, 101, 110, 47] ++ z := by subst hΩ; rfl
  generalize UInt8.ofNat (48 + 1) = q at *
  have hsg := hsg q
  have hls := hls q
  obtain ⟨y, hy⟩ : ∃ y, y = q :: z := ⟨_, rfl⟩
  rw [← hy] at hd hsg hls
  generalize [103, 101, 110, 47] ++ z = r at *
  have htab := tab
  have hmo := hmo
  refine PCtr.walk tab hΩ fn_spec_GenPath rfl ?_
  generalize PP = P at *
  cbv
  refine call_pure hΩ 3 hin rfl (fits _) rfl rfl ?_
  cbv
  refine br (fun h => (notT hΩ h).elim) (fun h => ?_)
  cbv
  refine call_pure hΩ 3 hd rfl (fits _) rfl rfl ?_
  cbv
  have hyl : y.length = z.length + 1 := by rw [hy]; rfl
  exact ⟨⟨by decide, trivial, by show Ω.nat 1 ≤ Ω.lenS y; rw [hls]; subst hΩ; show 1 ≤ _; omega, by show Ω.lenS y ≤ y.length; rw [hls, hyl]; exact Nat.le_refl _⟩,
    ⟨by show ((4 + (Ω.segS (Ω.nat 1) (Ω.lenS y) y).length : Nat) : Int) ≤ _; rw [hsg]; omega⟩, .of (congrArg str (by show Ω.cat [103, 101, 110, 47] (Ω.segS (Ω.nat 1) (Ω.lenS y) y) = r; rw [hsg, hcat]))⟩
end Go.Proofs.YtidlnilcdmhkiaaGreatDoor

/- Disks: files and how they lie in cells. Plain definitions. -/
set_option linter.unusedVariables false
set_option linter.unusedSimpArgs false
namespace Go.Proofs.YtidlnilcdmhkiaaGreatDoor
open Go Go.Fw
/-- A file: its path, its bytes. -/
structure Fil where
  p : List UInt8
  d : List UInt8
  deriving DecidableEq
/-- A disk. -/
structure Dsk where
  f : List Fil
  bg : Int
  wr : Int
  st : Int
  dn : Bool
/-- A file in cells; o: its bytes are held alone. -/
def Fil.enc (o : Bool) (x : Fil) : A := .agg [str x.p, .sl o 1 (x.d.map byteA)]
/-- A disk in cells; q: its files are held alone. -/
def Dsk.enc (q o : Bool) (x : Dsk) : A := .agg [.sl q 2 (x.f.map (Fil.enc o)), i64 x.bg, i64 x.wr, i64 x.st, boo x.dn]
theorem frz_bytes (l : List UInt8) : (l.map byteA).map frz = l.map byteA := by
  rw [List.map_map]; exact List.map_congr_left fun c _ => rfl
theorem frz_Fil (x : Fil) : frz (x.enc true) = x.enc false := by
  unfold Fil.enc
  rw [frz_agg]
  simp only [List.map_cons, List.map_nil, frz_sl, frz_bytes]; rfl
theorem frz_Fils (l : List Fil) : (l.map (Fil.enc true)).map frz = l.map (Fil.enc false) := by
  rw [List.map_map]; exact List.map_congr_left fun c _ => frz_Fil c
/-- A byte of a path. -/
def pathB (c : UInt8) : Bool := nameB c || (decide ((c.toNat : Int) = 46) || (decide ((c.toNat : Int) = 45) || decide ((c.toNat : Int) = 47)))
def leB (a b : List UInt8) : Bool := Op.bytesLess a b || a == b
def pathF (p : List UInt8) : Int := if p.length < 1 ∨ 40 < p.length then 5 else allCode pathB 5 p
/-- How many bytes files have. -/
def totL (l : List Fil) : Nat := (l.map fun f => f.d.length).sum
theorem totL_at {l : List Fil} {i : Nat} {f : Fil} (h : l[i]? = some f) : totL (l.take (i + 1)) = totL (l.take i) + f.d.length := by
  unfold totL
  rw [List.take_add_one, h]
  simp
/-- What is wrong with files, one behind the other. -/
def filsF : Option (List UInt8) → List Fil → Int
  | _, [] => 0
  | q, f :: fs => if pathF f.p ≠ 0 then pathF f.p else if q.any (leB f.p) then 1 else if 4000 < f.d.length then 2 else filsF (some f.p) fs
/-- What is wrong with a disk. -/
def dskF (x : Dsk) : Int :=
  if (inB x.bg 0 20000 && (inB x.wr 0 1000000000 && inB x.st (-1) 1000000000)) = false then 3
  else if 120 < x.f.length then 2
  else if filsF none x.f ≠ 0 then filsF none x.f
  else if x.bg < (totL x.f : Int) then 8 else 0
def prevP (l : List Fil) (i : Nat) : Option (List UInt8) := if i = 0 then none else (l[i - 1]?).map Fil.p
theorem filsF_at {l : List Fil} {i : Nat} {f : Fil} (h : l[i]? = some f) : filsF (prevP l i) (l.drop i) = if pathF f.p ≠ 0 then pathF f.p else if (prevP l i).any (leB f.p) then 1 else if 4000 < f.d.length then 2 else filsF (prevP l (i + 1)) (l.drop (i + 1)) := by
  obtain ⟨hi, rfl⟩ := List.getElem?_eq_some_iff.1 h
  rw [List.drop_eq_getElem_cons hi]
  have e : prevP l (i + 1) = some l[i].p := by unfold prevP; rw [if_neg (by omega), Nat.add_sub_cancel, List.getElem?_eq_getElem hi]; rfl
  rw [e]; rfl
end Go.Proofs.YtidlnilcdmhkiaaGreatDoor

/- Walks: paths. Plain theorems. -/
set_option linter.unusedVariables false
set_option linter.unusedSimpArgs false
namespace Go.Proofs.YtidlnilcdmhkiaaGreatDoor
open Go Go.Fw
set_option maxRecDepth 100000
theorem c_l7Byte (c : UInt8) : PCtr PP n_spec_l7Byte [u8 c] (boo (pathB c)) := by
  obtain ⟨Ω, hΩ⟩ : ∃ Ω, Ω = std := ⟨_, rfl⟩
  obtain ⟨r, hr⟩ : ∃ r, r = pathB c := ⟨_, rfl⟩
  rw [← hr]
  have hc0 := c_l1Name c
  unfold pathB at hr
  unfold u8 at *
  generalize (c.toNat : Int) = n at *
  generalize nameB c = b1 at *
  have htab := tab
  have hmo := hmo
  refine PCtr.walk tab hΩ fn_spec_l7Byte rfl ?_
  generalize PP = P at *
  cbv
  refine call_pure hΩ 3 hc0 rfl (fits _) rfl rfl ?_
  cbv
  repeat' (first | (refine br (fun h => ?_) (fun h => ?_) <;> cbv) | (refine ⟨VC_drawn htab hΩ hmo (by kernel_rfl) ?_⟩; cbv))
  all_goals (refine .of (congrArg boo ?_); subst hΩ; subst hr; clear hc0 htab hmo; cases b1 <;> simp_all <;> rw [Bool.eq_iff_iff] <;> simp)
theorem c_specPathFault (s : List UInt8) : PCtr PP n_spec_PathFault [str s] (i64 (pathF s)) := by
  obtain ⟨Ω, hΩ⟩ : ∃ Ω, Ω = std := ⟨_, rfl⟩
  obtain ⟨r, hr⟩ : ∃ r, r = pathF s := ⟨_, rfl⟩
  rw [← hr]
  have hc : ∀ c, PCtr PP n_spec_l7Byte [.sc (.int .u8 (Ω.u8 c))] (boo (pathB c)) := by subst hΩ; exact c_l7Byte
  unfold pathF at hr
  generalize pathB = F at *
  have htab := tab
  have hmo := hmo
  refine PCtr.walk tab hΩ fn_spec_PathFault rfl ?_
  generalize PP = P at *
  cbv
  have hb1 : Ω.cmp .lss (Ω.int (Ω.lenS s)) 1 = true → r = 5 := fun h => by
    have h := ltZt hΩ h
    subst hΩ
    have h : (s.length : Int) < 1 := h
    rw [hr, if_pos (.inl (by omega))]
  have hb2 : Ω.cmp .gtr (Ω.int (Ω.lenS s)) 40 = true → r = 5 := fun h => by
    have h := gtZt hΩ h
    subst hΩ
    have h : 40 < (s.length : Int) := h
    rw [hr, if_pos (.inr (by omega))]
  have hok : Ω.cmp .lss (Ω.int (Ω.lenS s)) 1 = false → Ω.cmp .gtr (Ω.int (Ω.lenS s)) 40 = false → r = allCode F 5 s ∧ s.length ≤ 40 := fun h g => by
    have h := ltZf hΩ h
    have g := gtZf hΩ g
    subst hΩ
    have h : 1 ≤ (s.length : Int) := h
    have g : (s.length : Int) ≤ 40 := g
    rw [hr, if_neg (by omega)]
    exact ⟨rfl, by omega⟩
  clear hr
  refine br (fun h1 => ?_) (fun h1 => ?_) <;> cbv
  · exact .of (congrArg i64 (hb1 h1).symm)
  · refine br (fun h2 => ?_) (fun h2 => ?_) <;> cbv
    · exact .of (congrArg i64 (hb2 (iteB hΩ h2)).symm)
    · obtain ⟨he0, hn40⟩ := hok h1 (iteB hΩ h2)
      refine loopX htab hΩ (fun i : Nat => ⟨[(0, .sc (.string (mkS s))), (3, .sc (.int .i64 (Ω.int i)))], 23, []⟩) (fun i => i ≤ s.length ∧ r = allCode F 5 (s.drop i)) (fun i => s.length - i) 0
        ⟨Nat.zero_le _, he0⟩ (Sbs.mk rfl rfl ⟨rfl, zeroI hΩ, trivial⟩) ?_
      rintro i ⟨hi, he⟩
      cbv
      refine br (fun h => ?_) (fun h => ?_) <;> cbv
      · replace h := ltS hΩ h
        obtain ⟨c, hcc⟩ := at_of (cs := s) h
        rw [allCode_at _ _ hcc] at he
        refine ⟨⟨nnI hΩ⟩, c, by subst hΩ; exact hcc, ?_⟩
        cbv
        refine call_pure hΩ 3 (hc c) rfl (fits _) rfl rfl ?_
        cbv
        refine br (fun g => ?_) (fun g => ?_) <;> cbv
        · exact .of (congrArg i64 (by rw [he, notT' hΩ g]; rfl))
        · rw [notF' hΩ g] at he
          exact ⟨i + 1, ⟨by omega, he⟩, by omega, Sbs.mk rfl rfl ⟨rfl, incI hΩ (by omega), trivial⟩⟩
      · replace h := geS hΩ h
        exact .of (congrArg i64 (by rw [he, List.drop_of_length_le h]; rfl))
theorem c_implPathFault (s : List UInt8) : PCtr PP n_impl_PathFault [str s] (i64 (pathF s)) := by
  obtain ⟨Ω, hΩ⟩ : ∃ Ω, Ω = std := ⟨_, rfl⟩
  obtain ⟨r, hr⟩ : ∃ r, r = pathF s := ⟨_, rfl⟩
  rw [← hr]
  have hc : ∀ c, PCtr PP n_impl_isNameByte [.sc (.int .u8 (Ω.u8 c))] (boo (nameB c)) := by subst hΩ; exact c_isNameByte
  unfold pathF at hr
  have hF : ∀ c, pathB c = (nameB c || (decide ((Ω.u8 c : Int) = 46) || (decide ((Ω.u8 c : Int) = 45) || decide ((Ω.u8 c : Int) = 47)))) := by subst hΩ; intro c; rfl
  generalize pathB = F at *
  generalize nameB = F0 at *
  have htab := tab
  have hmo := hmo
  refine PCtr.walk tab hΩ fn_impl_PathFault rfl ?_
  generalize PP = P at *
  cbv
  have hb1 : Ω.cmp .lss (Ω.int (Ω.lenS s)) 1 = true → r = 5 := fun h => by
    have h := ltZt hΩ h
    subst hΩ
    have h : (s.length : Int) < 1 := h
    rw [hr, if_pos (.inl (by omega))]
  have hb2 : Ω.cmp .gtr (Ω.int (Ω.lenS s)) 40 = true → r = 5 := fun h => by
    have h := gtZt hΩ h
    subst hΩ
    have h : 40 < (s.length : Int) := h
    rw [hr, if_pos (.inr (by omega))]
  have hok : Ω.cmp .lss (Ω.int (Ω.lenS s)) 1 = false → Ω.cmp .gtr (Ω.int (Ω.lenS s)) 40 = false → r = allCode F 5 s ∧ s.length ≤ 40 := fun h g => by
    have h := ltZf hΩ h
    have g := gtZf hΩ g
    subst hΩ
    have h : 1 ≤ (s.length : Int) := h
    have g : (s.length : Int) ≤ 40 := g
    rw [hr, if_neg (by omega)]
    exact ⟨rfl, by omega⟩
  clear hr
  refine br (fun h1 => ?_) (fun h1 => ?_) <;> cbv
  · exact .of (congrArg i64 (hb1 h1).symm)
  · refine br (fun h2 => ?_) (fun h2 => ?_) <;> cbv
    · exact .of (congrArg i64 (hb2 (iteB hΩ h2)).symm)
    · obtain ⟨he0, hn40⟩ := hok h1 (iteB hΩ h2)
      refine loopX htab hΩ (fun i : Nat => ⟨[(0, .sc (.string (mkS s))), (14, .sc (.int .i64 (Ω.int (Ω.lenS s)))), (15, .sc (.int .i64 (Ω.int i)))], 37, []⟩) (fun i => i ≤ s.length ∧ r = allCode F 5 (s.drop i)) (fun i => s.length - i) 0
        ⟨Nat.zero_le _, he0⟩ (Sbs.mk rfl rfl ⟨rfl, rfl, zeroI hΩ, trivial⟩) ?_
      rintro i ⟨hi, he⟩
      cbv
      refine br (fun h => ?_) (fun h => ?_) <;> cbv
      · replace h := ltS hΩ h
        obtain ⟨c, hcc⟩ := at_of (cs := s) h
        rw [allCode_at _ _ hcc, hF c] at he
        refine ⟨⟨nnI hΩ⟩, c, by subst hΩ; exact hcc, ?_⟩
        cbv
        refine call_pure hΩ 3 (hc c) rfl (fits _) rfl rfl ?_
        have hk : ∀ k : Int, (decide (k = 46) || (decide (k = 45) || decide (k = 47))) = true ↔ (k = 46 ∨ k = 45 ∨ k = 47) := fun k => by simp
        have stop : ¬ (F0 c = true) → ¬ ((Ω.u8 c : Int) = 46 ∨ (Ω.u8 c : Int) = 45 ∨ (Ω.u8 c : Int) = 47) → r = 5 := fun h1 h2 => by
          rw [he, if_neg]
          rw [Bool.or_eq_true, hk]
          exact fun h => h.elim h1 h2
        have go : F0 c = true ∨ (Ω.u8 c : Int) = 46 ∨ (Ω.u8 c : Int) = 45 ∨ (Ω.u8 c : Int) = 47 → r = allCode F 5 (s.drop (i + 1)) := fun h1 => by
          rw [he, if_pos]
          rw [Bool.or_eq_true, hk]
          exact h1
        have nx : r = allCode F 5 (s.drop (i + 1)) → (i + 1 ≤ s.length ∧ r = allCode F 5 (s.drop (i + 1))) := fun h => ⟨by omega, h⟩
        have lt1 : s.length - (i + 1) < s.length - i := by omega
        clear he hF
        refine br (fun g0 => ?_) (fun g0 => ?_) <;> cbv
        · have g0 := notA hΩ g0
          refine br (fun g1 => ?_) (fun g1 => ?_) <;> cbv
          · have g1 := neZt hΩ (iteA hΩ g1)
            refine br (fun g2 => ?_) (fun g2 => ?_) <;> cbv
            · have g2 := neZt hΩ (iteA hΩ g2)
              refine br (fun g3 => ?_) (fun g3 => ?_) <;> cbv
              · have g3 := neZt hΩ (iteA hΩ g3)
                exact .of (congrArg i64 (stop (by rw [g0]; simp) (fun h => h.elim g1 fun h => h.elim g2 g3)).symm)
              · have g3 := neZf hΩ (iteA hΩ g3)
                exact ⟨i + 1, nx (go (.inr (.inr (.inr g3)))), lt1, Sbs.mk rfl rfl ⟨rfl, rfl, incI hΩ (by omega), trivial⟩⟩
            · have g2 := neZf hΩ (iteA hΩ g2)
              exact ⟨i + 1, nx (go (.inr (.inr (.inl g2)))), lt1, Sbs.mk rfl rfl ⟨rfl, rfl, incI hΩ (by omega), trivial⟩⟩
          · have g1 := neZf hΩ (iteA hΩ g1)
            exact ⟨i + 1, nx (go (.inr (.inl g1))), lt1, Sbs.mk rfl rfl ⟨rfl, rfl, incI hΩ (by omega), trivial⟩⟩
        · have g0 := notB hΩ g0
          exact ⟨i + 1, nx (go (.inl g0)), lt1, Sbs.mk rfl rfl ⟨rfl, rfl, incI hΩ (by omega), trivial⟩⟩
      · replace h := geS hΩ h
        exact .of (congrArg i64 (by rw [he, List.drop_of_length_le h]; rfl))
end Go.Proofs.YtidlnilcdmhkiaaGreatDoor

/- Walks: how much a disk holds. Plain theorems. -/
set_option linter.unusedVariables false
set_option linter.unusedSimpArgs false
namespace Go.Proofs.YtidlnilcdmhkiaaGreatDoor
open Go Go.Fw
set_option maxRecDepth 100000
theorem addT {Ω : Opq} (hΩ : Ω = std) {x y z : Int} (h : x + y = z) (h0 : -9223372036854775808 ≤ z) (h1 : z ≤ 9223372036854775807) : Ω.ar .add .i64 x y = z := by subst hΩ; subst h; exact wrap64 h0 h1
/-- A disk's cells, seen and not written. -/
def Dsk.see (x : Dsk) : A := .rp [.sl false 2 (x.f.map (Fil.enc false)), i64 x.bg, i64 x.wr, i64 x.st, boo x.dn]
theorem totL_le {l : List Fil} {i : Nat} (h : i ≤ l.length) : totL (l.take i) ≤ totL l := by
  have : totL l = totL (l.take i) + totL (l.drop i) := by
    unfold totL
    rw [← List.sum_append, ← List.map_append, List.take_append_drop]
  omega
theorem c_l7Total (x : Dsk) (hl : x.f.length ≤ 1048576) (ht : totL x.f ≤ 1099511627776) : PCtr PP n_spec_l7Total [x.see] (i64 (totL x.f : Int)) := by
  obtain ⟨Ω, hΩ⟩ : ∃ Ω, Ω = std := ⟨_, rfl⟩
  unfold Dsk.see
  generalize x.bg = v1
  generalize x.wr = v2
  generalize x.st = v3
  generalize x.dn = v4
  obtain ⟨l, hL⟩ : ∃ l, l = x.f := ⟨_, rfl⟩
  rw [← hL] at ht hl ⊢
  obtain ⟨n, hn⟩ : ∃ n, n = l.length := ⟨_, rfl⟩
  obtain ⟨xs, hxs⟩ : ∃ xs, xs = l.map (Fil.enc false) := ⟨_, rfl⟩
  rw [← hxs]
  obtain ⟨ac, hac⟩ : ∃ ac : Nat → Int, ∀ i, ac i = (totL (l.take i) : Int) := ⟨_, fun _ => rfl⟩
  have hac0 : ac 0 = 0 := by rw [hac]; rfl
  have hacn : i64 (totL l : Int) = i64 (ac n) := by rw [hac, hn, List.take_length]
  have hacb : ∀ i, i ≤ n → 0 ≤ ac i ∧ ac i ≤ 1099511627776 := fun i hi => by rw [hac]; have := totL_le (l := l) (i := i) (by omega); omega
  have hacs : ∀ i c, l[i]? = some c → ac (i + 1) = ac i + (Ω.int (Ω.len (c.d.map byteA))) := fun i c h => by
    rw [hac, hac, totL_at h]; subst hΩ; show _ = _ + ((c.d.map byteA).length : Int); rw [List.length_map]; omega
  have hlen : Ω.int (Ω.len xs) = Ω.int n := by subst hΩ; show ((xs.length : Nat) : Int) = _; rw [hxs, List.length_map, hn]; rfl
  rw [hacn]
  clear hac hacn
  have htab := tab
  have hmo := hmo
  refine PCtr.walk tab hΩ fn_spec_l7Total rfl ?_
  generalize PP = P at *
  cbv
  refine loopX htab hΩ (fun i : Nat => ⟨[(0, .rp [.sl false 2 xs, i64 v1, i64 v2, i64 v3, boo v4]), (3, i64 (ac i)), (4, i64 (Ω.int i))], 26, []⟩) (fun i => i ≤ n) (fun i => n - i) 0 (Nat.zero_le _)
    (Sbs.mk rfl rfl ⟨rfl, congrArg i64 hac0.symm, zeroI hΩ, trivial⟩) (fun i hi => ?_)
  cbv
  refine br (fun h => ?_) (fun h => ?_) <;> cbv
  · have h := ltZt hΩ h
    have h : i < n := by rw [hlen] at h; subst hΩ; have h : (i : Int) < (n : Int) := h; omega
    obtain ⟨c, hc⟩ := at_of (cs := l) (by omega : i < _)
    have hs := hacs i c hc
    have hb := hacb (i + 1) (by omega)
    generalize hd : c.d.map byteA = cd at hs
    refine ⟨⟨nnI hΩ⟩, .agg [str c.p, .sl false 1 cd], (rdI hΩ hxs hc).trans (by rw [← hd]; rfl), ?_⟩
    cbv
    exact ⟨i + 1, by omega, by omega, Sbs.mk rfl rfl ⟨rfl, congrArg i64 (addT hΩ hs.symm (by omega) (by omega)), incI hΩ (by omega), trivial⟩⟩
  · have h := ltZf hΩ h
    have h : i = n := by rw [hlen] at h; subst hΩ; have h : (n : Int) ≤ (i : Int) := h; omega
    exact .of (by rw [h])
theorem c_total (x : Dsk) (hl : x.f.length ≤ 1048576) (ht : totL x.f ≤ 1099511627776) : PCtr PP n_impl_Disk_total [x.enc false false] (i64 (totL x.f : Int)) := by
  obtain ⟨Ω, hΩ⟩ : ∃ Ω, Ω = std := ⟨_, rfl⟩
  unfold Dsk.enc
  generalize x.bg = v1
  generalize x.wr = v2
  generalize x.st = v3
  generalize x.dn = v4
  obtain ⟨l, hL⟩ : ∃ l, l = x.f := ⟨_, rfl⟩
  rw [← hL] at ht hl ⊢
  obtain ⟨n, hn⟩ : ∃ n, n = l.length := ⟨_, rfl⟩
  obtain ⟨xs, hxs⟩ : ∃ xs, xs = l.map (Fil.enc false) := ⟨_, rfl⟩
  rw [← hxs]
  obtain ⟨ac, hac⟩ : ∃ ac : Nat → Int, ∀ i, ac i = (totL (l.take i) : Int) := ⟨_, fun _ => rfl⟩
  have hac0 : ac 0 = 0 := by rw [hac]; rfl
  have hacn : i64 (totL l : Int) = i64 (ac n) := by rw [hac, hn, List.take_length]
  have hacb : ∀ i, i ≤ n → 0 ≤ ac i ∧ ac i ≤ 1099511627776 := fun i hi => by rw [hac]; have := totL_le (l := l) (i := i) (by omega); omega
  have hacs : ∀ i c, l[i]? = some c → ac (i + 1) = ac i + (Ω.int (Ω.len (c.d.map byteA))) := fun i c h => by
    rw [hac, hac, totL_at h]; subst hΩ; show _ = _ + ((c.d.map byteA).length : Int); rw [List.length_map]; omega
  have hlen : Ω.int (Ω.len xs) = Ω.int n := by subst hΩ; show ((xs.length : Nat) : Int) = _; rw [hxs, List.length_map, hn]; rfl
  rw [hacn]
  clear hac hacn
  have htab := tab
  have hmo := hmo
  refine PCtr.walk tab hΩ fn_impl_Disk_total rfl ?_
  generalize PP = P at *
  cbv
  refine loopX htab hΩ (fun i : Nat => ⟨[(3, i64 (ac i)), (7, .sl false 2 xs), (8, i64 (Ω.int n)), (9, i64 (Ω.int i))], 20, []⟩) (fun i => i ≤ n) (fun i => n - i) 0 (Nat.zero_le _)
    (((Sbs.unlk (r := 0) rfl rfl).trans (Sbs.thaw0 (r := 0) rfl rfl rfl)).trans ((Sbs.cut 0 rfl).trans (Sbs.mk rfl rfl ⟨congrArg i64 hac0.symm, rfl, congrArg i64 hlen, zeroI hΩ, trivial⟩))) (fun i hi => ?_)
  cbv
  refine br (fun h => ?_) (fun h => ?_) <;> cbv
  · have h := ltZt hΩ h
    have h : i < n := by subst hΩ; have h : (i : Int) < (n : Int) := h; omega
    obtain ⟨c, hc⟩ := at_of (cs := l) (by omega : i < _)
    have hs := hacs i c hc
    have hb := hacb (i + 1) (by omega)
    generalize hd : c.d.map byteA = cd at hs
    refine ⟨⟨nnI hΩ⟩, .agg [str c.p, .sl false 1 cd], (rdI hΩ hxs hc).trans (by rw [← hd]; rfl), ?_⟩
    cbv
    exact ⟨i + 1, by omega, by omega, (Sbs.cut 0 rfl).trans (Sbs.mk rfl rfl ⟨congrArg i64 (addT hΩ hs.symm (by omega) (by omega)), rfl, rfl, incI hΩ (by omega), trivial⟩)⟩
  · have h := ltZf hΩ h
    have h : i = n := by subst hΩ; have h : (n : Int) ≤ (i : Int) := h; omega
    exact .of (by rw [h])
end Go.Proofs.YtidlnilcdmhkiaaGreatDoor

/- Walks: paths that begin with a text. Plain theorems. -/
set_option linter.unusedVariables false
set_option linter.unusedSimpArgs false
namespace Go.Proofs.YtidlnilcdmhkiaaGreatDoor
open Go Go.Fw
set_option maxRecDepth 100000
def begB (p s : List UInt8) : Bool := Lib.hasPrefix s p
theorem begB_eq (p s : List UInt8) : begB p s = decide (p.length ≤ s.length ∧ s.take p.length = p) := by
  unfold begB Lib.hasPrefix
  rw [Bool.eq_iff_iff, decide_eq_true_eq, List.isPrefixOf_iff_prefix, List.prefix_iff_eq_take]
  constructor
  · intro h; exact ⟨by rw [h]; simp; omega, h.symm⟩
  · intro h; exact h.2.symm
/-- The paths of files that begin with a text, in order. -/
def pathsF (l : List Fil) (p : List UInt8) : List (List UInt8) := (l.map Fil.p).filter (begB p)
theorem pathsF_at {l : List Fil} {i : Nat} {c : Fil} (p : List UInt8) (h : l[i]? = some c) : pathsF (l.take (i + 1)) p = pathsF (l.take i) p ++ (if begB p c.p then [c.p] else []) := by
  unfold pathsF
  rw [List.take_add_one, h]
  simp only [Option.toList, List.map_append, List.filter_append, List.map_cons, List.map_nil]
  congr 1
  cases hb : begB p c.p <;> simp [hb]
theorem pathsF_len (l : List Fil) (p : List UInt8) : (pathsF l p).length ≤ l.length := by
  unfold pathsF
  exact Nat.le_trans (List.length_filter_le _ _) (by rw [List.length_map]; exact Nat.le_refl _)
theorem c_l7Begins (s p : List UInt8) : PCtr PP n_spec_l7Begins [str s, str p] (boo (begB p s)) := by
  obtain ⟨Ω, hΩ⟩ : ∃ Ω, Ω = std := ⟨_, rfl⟩
  obtain ⟨r, hr⟩ : ∃ r, r = begB p s := ⟨_, rfl⟩
  rw [← hr]
  rw [begB_eq] at hr
  have hg : ∀ {b}, Ω.cmp .geq (Ω.int (Ω.lenS s)) (Ω.int (Ω.lenS p)) = b → b = decide (p.length ≤ s.length) := fun h => by subst hΩ; rw [← h]; exact decide_eq_decide.2 (by show ((p.length : Nat) : Int) ≤ (s.length : Int) ↔ _; omega)
  have hno : ¬ p.length ≤ s.length → r = false := fun h => by rw [hr]; exact decide_eq_false fun g => h g.1
  have hyes : p.length ≤ s.length → r = Ω.cmpS .eql (Ω.segS 0 (Ω.nat (Ω.int (Ω.lenS p))) s) p := fun h => by
    rw [hr]; subst hΩ
    show _ = (((s.take p.length).drop 0) == p)
    rw [List.drop_zero, Bool.eq_iff_iff]; simp [h]
  clear hr
  have htab := tab
  have hmo := hmo
  refine PCtr.walk tab hΩ fn_spec_l7Begins rfl ?_
  generalize PP = P at *
  cbv
  refine br (fun h => ?_) (fun h => ?_) <;> cbv
  · have h := of_decide_eq_true (hg h).symm
    have hle := h
    exact ⟨⟨trivial, nnI hΩ, Nat.zero_le _, by subst hΩ; exact (show p.length ≤ s.length from hle)⟩, .of (congrArg boo (by rw [hyes h]; subst hΩ; rfl))⟩
  · have h := of_decide_eq_false (hg h).symm
    exact .of (congrArg boo (hno h).symm)
theorem c_l7Paths (x : Dsk) (p : List UInt8) (hl : x.f.length ≤ 1048576) : PCtr PP n_spec_l7Paths [x.see, str p] (.sl true 1 ((pathsF x.f p).map str)) := by
  obtain ⟨Ω, hΩ⟩ : ∃ Ω, Ω = std := ⟨_, rfl⟩
  obtain ⟨F, hF⟩ : ∃ F : List (List UInt8) → List A, F = fun l => l.map str := ⟨_, rfl⟩
  have hFm : ∀ t : List (List UInt8), t.map str = F t := fun t => by rw [hF]
  have hlenF : ∀ t, (F t).length = t.length := fun t => by rw [hF, List.length_map]
  have hap : ∀ t x, Ω.app (Ω.take (Ω.len (F t)) (F t)) [str x] = F (t ++ [x]) := fun t x => by rw [takeAll hΩ, ← hFm, ← hFm, List.map_append]; subst hΩ; rfl
  have hpl : ∀ t x, Ω.plus (Ω.len (F t)) (Ω.len [str x]) = Ω.len (F (t ++ [x])) := fun t x => by rw [← hap, takeAll hΩ]; subst hΩ; exact (List.length_append).symm
  have hF0 : F [] = [] := by rw [hF]; rfl
  have hb : ∀ c, PCtr PP n_spec_l7Begins [str c, str p] (boo (begB p c)) := fun c => c_l7Begins c p
  unfold Dsk.see
  obtain ⟨l, v1, v2, v3, v4⟩ := x
  dsimp only at *
  obtain ⟨n, hn⟩ : ∃ n, n = l.length := ⟨_, rfl⟩
  obtain ⟨W, hW⟩ : ∃ W : Nat → List (List UInt8), W = fun i => pathsF (l.take i) p := ⟨_, rfl⟩
  have hWs : ∀ i c, l[i]? = some c → W (i + 1) = W i ++ (if begB p c.p then [c.p] else []) := fun i c h => by rw [hW]; exact pathsF_at p h
  have hW0 : W 0 = [] := by rw [hW]; rfl
  have hWn : pathsF l p = W n := by rw [hW, hn]; simp only [List.take_length]
  have hWl : ∀ i, (W i).length ≤ i := fun i => by rw [hW]; exact Nat.le_trans (pathsF_len _ _) (by rw [List.length_take]; omega)
  rw [hWn, hFm]
  clear hW hWn
  obtain ⟨xs, hxs⟩ : ∃ xs, xs = l.map (Fil.enc false) := ⟨_, rfl⟩
  rw [← hxs]
  have hlen : Ω.int (Ω.len xs) = Ω.int n := by subst hΩ; show ((xs.length : Nat) : Int) = _; rw [hxs, List.length_map, hn]; rfl
  have hat : ∀ i c, l[i]? = some c → xs[(Ω.int i).toNat]? = some (.agg [str c.p, .sl false 1 (c.d.map byteA)]) := fun i c hc => (rdI hΩ hxs hc).trans rfl
  have hnl : ∀ i, i < n → ∃ c, l[i]? = some c := fun i hi => at_of (by omega)
  generalize begB p = G at *
  have htab := tab
  have hmo := hmo
  refine PCtr.walk tab hΩ fn_spec_l7Paths rfl ?_
  generalize PP = P at *
  cbv
  refine loopX htab hΩ (fun i : Nat => ⟨[(0, .rp [.sl false 2 xs, i64 v1, i64 v2, i64 v3, boo v4]), (1, str p), (5, .vw 0 0 (Ω.len (F (W i)))), (6, i64 (Ω.int i))], 39, [some ⟨1, F (W i), false⟩]⟩) (fun i => i ≤ n) (fun i => n - i) 0 (Nat.zero_le _)
    ?enter (fun i hi => ?_)
  case enter => exact Sbs.mk rfl (by dsimp only; rw [hW0, hF0]) ⟨rfl, rfl, by dsimp only; rw [hW0, hF0]; subst hΩ; rfl, zeroI hΩ, trivial⟩
  have hol := hlenF (W i)
  have hlo : Ω.len (F (W i)) = (F (W i)).length := by subst hΩ; rfl
  have hle : Ω.len (F (W i)) ≤ (F (W i)).length := by rw [hlo]; exact Nat.le_refl _
  have htk : Ω.take (Ω.len (F (W i))) (F (W i)) = F (W i) := takeAll hΩ _
  have hwi := hWl i
  cbv
  refine br (fun h => ?_) (fun h => ?_) <;> cbv
  · have h := ltZt hΩ h
    have h : i < n := by rw [hlen] at h; subst hΩ; have h : (i : Int) < (n : Int) := h; omega
    obtain ⟨c, hc⟩ := hnl i h
    have hst := hWs i c hc
    have hap0 := hap (W i) c.p
    have hpl0 := hpl (W i) c.p
    have hac := hat i c hc
    have hbc := hb c.p
    generalize c.d.map byteA = cd at *
    generalize G c.p = g at *
    refine ⟨⟨nnI hΩ⟩, _, hac, ?_⟩
    cbv
    refine call_pure hΩ 3 hbc rfl (fits _) rfl rfl ?_
    cbv
    refine br (fun q => ?_) (fun q => ?_) <;> cbv
    · rw [if_pos q] at hst
      refine ⟨⟨nnI hΩ⟩, _, hac, ?_⟩
      cbv
      exact ⟨⟨rfl, okAll rfl, by show (Ω.len (F (W i)) + 1) * 16 ≤ 140737488355328; omega, by show Ω.len (F (W i)) + 1 ≤ 9223372036854775807; omega⟩,
        i + 1, by omega, by omega, (Sbs.cut 1 rfl).trans (Sbs.mk rfl (by show [some (Row.mk 1 (Ω.app (Ω.take (Ω.len (F (W i))) (F (W i))) [str c.p]) false)] = _; rw [hap0, hst]) ⟨rfl, rfl, congrArg (A.vw 0 0) (by rw [hst]; exact hpl0), incI hΩ (by omega), trivial⟩)⟩
    · rw [if_neg (by rw [q]; simp), List.append_nil] at hst
      exact ⟨i + 1, by omega, by omega, Sbs.mk rfl (by rw [hst]) ⟨rfl, rfl, by rw [hst]; rfl, incI hΩ (by omega), trivial⟩⟩
  · have h := ltZf hΩ h
    have h : i = n := by rw [hlen] at h; subst hΩ; have h : (n : Int) ≤ (i : Int) := h; omega
    subst h
    exact ⟨⟨rfl, hle⟩, .of (congrArg (A.sl true 1) htk)⟩
theorem c_paths (x : Dsk) (p : List UInt8) (hl : x.f.length ≤ 1048576) : PCtr PP n_impl_Disk_paths [x.enc false false, str p] (.sl true 1 ((pathsF x.f p).map str)) := by
  obtain ⟨Ω, hΩ⟩ : ∃ Ω, Ω = std := ⟨_, rfl⟩
  obtain ⟨F, hF⟩ : ∃ F : List (List UInt8) → List A, F = fun l => l.map str := ⟨_, rfl⟩
  have hFm : ∀ t : List (List UInt8), t.map str = F t := fun t => by rw [hF]
  have hlenF : ∀ t, (F t).length = t.length := fun t => by rw [hF, List.length_map]
  have hap : ∀ t x, Ω.app (Ω.take (Ω.len (F t)) (F t)) [str x] = F (t ++ [x]) := fun t x => by rw [takeAll hΩ, ← hFm, ← hFm, List.map_append]; subst hΩ; rfl
  have hpl : ∀ t x, Ω.plus (Ω.len (F t)) (Ω.len [str x]) = Ω.len (F (t ++ [x])) := fun t x => by rw [← hap, takeAll hΩ]; subst hΩ; exact (List.length_append).symm
  have hF0 : F [] = [] := by rw [hF]; rfl
  have hb : ∀ c, PCtr PP n_strings_HasPrefix [str c, str p] (boo (begB p c)) := fun c => c_HasPrefix c p
  unfold Dsk.enc
  obtain ⟨l, v1, v2, v3, v4⟩ := x
  dsimp only at *
  obtain ⟨n, hn⟩ : ∃ n, n = l.length := ⟨_, rfl⟩
  obtain ⟨W, hW⟩ : ∃ W : Nat → List (List UInt8), W = fun i => pathsF (l.take i) p := ⟨_, rfl⟩
  have hWs : ∀ i c, l[i]? = some c → W (i + 1) = W i ++ (if begB p c.p then [c.p] else []) := fun i c h => by rw [hW]; exact pathsF_at p h
  have hW0 : W 0 = [] := by rw [hW]; rfl
  have hWn : pathsF l p = W n := by rw [hW, hn]; simp only [List.take_length]
  have hWl : ∀ i, (W i).length ≤ i := fun i => by rw [hW]; exact Nat.le_trans (pathsF_len _ _) (by rw [List.length_take]; omega)
  rw [hWn, hFm]
  clear hW hWn
  obtain ⟨xs, hxs⟩ : ∃ xs, xs = l.map (Fil.enc false) := ⟨_, rfl⟩
  rw [← hxs]
  have hlen : Ω.int (Ω.len xs) = Ω.int n := by subst hΩ; show ((xs.length : Nat) : Int) = _; rw [hxs, List.length_map, hn]; rfl
  have hat : ∀ i c, l[i]? = some c → xs[(Ω.int i).toNat]? = some (.agg [str c.p, .sl false 1 (c.d.map byteA)]) := fun i c hc => (rdI hΩ hxs hc).trans rfl
  have hnl : ∀ i, i < n → ∃ c, l[i]? = some c := fun i hi => at_of (by omega)
  generalize begB p = G at *
  have htab := tab
  have hmo := hmo
  refine PCtr.walk tab hΩ fn_impl_Disk_paths rfl ?_
  generalize PP = P at *
  cbv
  refine loopX htab hΩ (fun i : Nat => ⟨[(1, str p), (5, .vw 1 0 (Ω.len (F (W i)))), (10, .sl false 2 xs), (11, i64 (Ω.int n)), (12, i64 (Ω.int i))], 27, [none, some ⟨1, F (W i), false⟩]⟩) (fun i => i ≤ n) (fun i => n - i) 0 (Nat.zero_le _)
    ?enter (fun i hi => ?_)
  case enter => exact ((Sbs.unlk (r := 0) rfl rfl).trans (Sbs.thaw0 (r := 0) rfl rfl rfl)).trans (Sbs.mk rfl (by dsimp only; rw [hW0, hF0]; rfl) ⟨rfl, by dsimp only; rw [hW0, hF0]; subst hΩ; rfl, rfl, congrArg i64 hlen, zeroI hΩ, trivial⟩)
  have hol := hlenF (W i)
  have hlo : Ω.len (F (W i)) = (F (W i)).length := by subst hΩ; rfl
  have hle : Ω.len (F (W i)) ≤ (F (W i)).length := by rw [hlo]; exact Nat.le_refl _
  have htk : Ω.take (Ω.len (F (W i))) (F (W i)) = F (W i) := takeAll hΩ _
  have hwi := hWl i
  cbv
  refine br (fun h => ?_) (fun h => ?_) <;> cbv
  · have h := ltZt hΩ h
    have h : i < n := by subst hΩ; have h : (i : Int) < (n : Int) := h; omega
    obtain ⟨c, hc⟩ := hnl i h
    have hst := hWs i c hc
    have hap0 := hap (W i) c.p
    have hpl0 := hpl (W i) c.p
    have hac := hat i c hc
    have hbc := hb c.p
    generalize c.d.map byteA = cd at *
    generalize G c.p = g at *
    refine ⟨⟨nnI hΩ⟩, _, hac, ?_⟩
    cbv
    refine call_pure hΩ 3 hbc rfl (fits _) rfl rfl ?_
    cbv
    refine br (fun q => ?_) (fun q => ?_) <;> cbv
    · rw [if_pos q] at hst
      exact ⟨⟨rfl, okAll rfl, by show (Ω.len (F (W i)) + 1) * 16 ≤ 140737488355328; omega, by show Ω.len (F (W i)) + 1 ≤ 9223372036854775807; omega⟩,
        i + 1, by omega, by omega, (Sbs.cut 2 rfl).trans (Sbs.mk rfl (by show [none, some (Row.mk 1 (Ω.app (Ω.take (Ω.len (F (W i))) (F (W i))) [str c.p]) false)] = _; rw [hap0, hst]) ⟨rfl, congrArg (A.vw 1 0) (by rw [hst]; exact hpl0), rfl, rfl, incI hΩ (by omega), trivial⟩)⟩
    · rw [if_neg (by rw [q]; simp), List.append_nil] at hst
      exact ⟨i + 1, by omega, by omega, (Sbs.cut 2 rfl).trans (Sbs.mk rfl (by rw [hst]; rfl) ⟨rfl, by rw [hst]; rfl, rfl, rfl, incI hΩ (by omega), trivial⟩)⟩
  · have h := ltZf hΩ h
    have h : i = n := by subst hΩ; have h : (n : Int) ≤ (i : Int) := h; omega
    subst h
    exact ⟨⟨rfl, hle⟩, .of (congrArg (A.sl true 1) htk)⟩
end Go.Proofs.YtidlnilcdmhkiaaGreatDoor

/- Files in order: where a path stands. Plain theorems. -/
set_option linter.unusedVariables false
set_option linter.unusedSimpArgs false
namespace Go.Proofs.YtidlnilcdmhkiaaGreatDoor
open Go Go.Fw
theorem cmpB_zero : ∀ {x y : List UInt8}, Lib.compareBytes x y = 0 ↔ x = y
  | [], [] => by simp [Lib.compareBytes]
  | [], _ :: _ => by simp [Lib.compareBytes]
  | _ :: _, [] => by simp [Lib.compareBytes]
  | a :: us, b :: bs => by
    have ih := cmpB_zero (x := us) (y := bs)
    rw [Lib.compareBytes]
    split
    · rename_i h; simp; intro e; subst e; exact absurd h (UInt8.lt_irrefl _)
    · rename_i h1
      split
      · rename_i h; simp; intro e; subst e; exact absurd h (UInt8.lt_irrefl _)
      · rename_i h2
        have : a = b := UInt8.le_antisymm (UInt8.not_lt.1 h2) (UInt8.not_lt.1 h1)
        rw [ih]; simp [this]
theorem cmpB_lt : ∀ {x y : List UInt8}, Lib.compareBytes x y < 0 ↔ x < y
  | [], [] => by simp [Lib.compareBytes]
  | [], _ :: _ => by simp [Lib.compareBytes]
  | _ :: _, [] => by simp [Lib.compareBytes]
  | a :: us, b :: bs => by
    have ih := cmpB_lt (x := us) (y := bs)
    rw [Lib.compareBytes, List.cons_lt_cons_iff]
    split
    · rename_i h; simp [h]
    · rename_i h1
      split
      · rename_i h; simp only [h1, false_or]; constructor
        · intro h; simp at h
        · rintro ⟨rfl, -⟩; exact absurd h (UInt8.lt_irrefl _)
      · rename_i h2
        have : a = b := UInt8.le_antisymm (UInt8.not_lt.1 h2) (UInt8.not_lt.1 h1)
        rw [ih]; simp [this]
/-- Files in strict order of their paths. -/
def ordF (l : List Fil) : Prop := l.Pairwise fun a b => a.p < b.p
/-- Where a path stands or would stand. -/
def plcF (l : List Fil) (p : List UInt8) : Nat := (l.takeWhile fun f => decide (f.p < p)).length
theorem plcF_of {l : List Fil} {p : List UInt8} {i : Nat} (hi : i ≤ l.length) (h1 : ∀ k f, l[k]? = some f → k < i → f.p < p) (h2 : ∀ k f, l[k]? = some f → i ≤ k → ¬ f.p < p) : plcF l p = i := by
  unfold plcF
  induction l generalizing i with
  | nil => simp at hi ⊢; omega
  | cons f l ih =>
    rcases i with _ | i
    · have := h2 0 f rfl (Nat.le_refl _)
      rw [List.takeWhile_cons_of_neg (by simpa using this)]; rfl
    · have := h1 0 f rfl (by omega)
      rw [List.takeWhile_cons_of_pos (by simpa using this), List.length_cons]
      rw [ih (i := i) (by simpa using hi) (fun k g hg hk => h1 (k + 1) g hg (by omega)) (fun k g hg hk => h2 (k + 1) g hg (by omega))]
theorem ordF_at {l : List Fil} (h : ordF l) {i j : Nat} {a b : Fil} (ha : l[i]? = some a) (hb : l[j]? = some b) (hij : i < j) : a.p < b.p := by
  obtain ⟨h1, rfl⟩ := List.getElem?_eq_some_iff.1 ha
  obtain ⟨h2, rfl⟩ := List.getElem?_eq_some_iff.1 hb
  exact List.pairwise_iff_getElem.1 h i j h1 h2 hij
theorem ordF_lo {l : List Fil} (h : ordF l) {p : List UInt8} {m : Nat} {a : Fil} (ha : l[m]? = some a) (hp : a.p < p) : ∀ k f, l[k]? = some f → k < m + 1 → f.p < p := fun k f hf hk => by
  rcases Nat.lt_or_ge k m with h' | h'
  · exact List.lt_trans (ordF_at h hf ha h') hp
  · obtain rfl : k = m := by omega
    rw [ha] at hf; cases hf; exact hp
theorem ordF_hi {l : List Fil} (h : ordF l) {p : List UInt8} {m : Nat} {a : Fil} (ha : l[m]? = some a) (hp : ¬ a.p < p) : ∀ k f, l[k]? = some f → m ≤ k → ¬ f.p < p := fun k f hf hk g => by
  rcases Nat.lt_or_ge m k with h' | h'
  · exact hp (List.lt_trans (ordF_at h ha hf h') g)
  · obtain rfl : k = m := by omega
    rw [ha] at hf; cases hf; exact hp g
/-- Where the spec finds a path: the first place, or -1. -/
def fndF (l : List Fil) (p : List UInt8) : Int := idxFrom (fun f : Fil => decide (f.p = p)) 0 l
theorem c_l7Find (x : Dsk) (p : List UInt8) (hl : x.f.length ≤ 1048576) : PCtr PP n_spec_l7Find [x.see, str p] (i64 (fndF x.f p)) := by
  obtain ⟨Ω, hΩ⟩ : ∃ Ω, Ω = std := ⟨_, rfl⟩
  unfold Dsk.see
  obtain ⟨l, v1, v2, v3, v4⟩ := x
  dsimp only at *
  obtain ⟨r, hr⟩ : ∃ r, r = fndF l p := ⟨_, rfl⟩
  rw [← hr]
  unfold fndF at hr
  obtain ⟨n, hn⟩ : ∃ n, n = l.length := ⟨_, rfl⟩
  obtain ⟨xs, hxs⟩ : ∃ xs, xs = l.map (Fil.enc false) := ⟨_, rfl⟩
  rw [← hxs]
  have hlen : Ω.int (Ω.len xs) = Ω.int n := by subst hΩ; show ((xs.length : Nat) : Int) = _; rw [hxs, List.length_map, hn]; rfl
  have hat : ∀ i c, l[i]? = some c → xs[(Ω.int i).toNat]? = some (.agg [str c.p, .sl false 1 (c.d.map byteA)]) := fun i c hc => (rdI hΩ hxs hc).trans rfl
  have hnl : ∀ i, i < n → ∃ c, l[i]? = some c := fun i hi => at_of (by omega)
  have hend : idxFrom (fun f : Fil => decide (f.p = p)) n (l.drop n) = -1 := by rw [List.drop_of_length_le (by omega)]; rfl
  have hst : ∀ i c, l[i]? = some c → idxFrom (fun f : Fil => decide (f.p = p)) i (l.drop i) = if decide (c.p = p) = true then (i : Int) else idxFrom (fun f : Fil => decide (f.p = p)) (i + 1) (l.drop (i + 1)) := fun i c hc => idxFrom_at _ hc
  have hic : ∀ i : Nat, i64 (Ω.int i) = i64 (i : Int) := fun i => by subst hΩ; rfl
  obtain ⟨K, hK⟩ : ∃ K : Nat → Int, ∀ i, K i = idxFrom (fun f : Fil => decide (f.p = p)) i (l.drop i) := ⟨_, fun _ => rfl⟩
  simp only [← hK] at hend hst
  have hr : r = K 0 := by rw [hK]; exact hr
  clear hK
  have htab := tab
  have hmo := hmo
  refine PCtr.walk tab hΩ fn_spec_l7Find rfl ?_
  generalize PP = P at *
  cbv
  refine loopX htab hΩ (fun i : Nat => ⟨[(0, .rp [.sl false 2 xs, i64 v1, i64 v2, i64 v3, boo v4]), (1, str p), (5, i64 (Ω.int i))], 26, []⟩) (fun i => i ≤ n ∧ r = K i) (fun i => n - i) 0 ⟨Nat.zero_le _, hr⟩
    (Sbs.mk rfl rfl ⟨rfl, rfl, zeroI hΩ, trivial⟩) ?_
  rintro i ⟨hi, he⟩
  cbv
  refine br (fun h => ?_) (fun h => ?_) <;> cbv
  · have h := ltZt hΩ h
    have h : i < n := by rw [hlen] at h; subst hΩ; have h : (i : Int) < (n : Int) := h; omega
    obtain ⟨c, hc⟩ := hnl i h
    have hac := hat i c hc
    have hs := hst i c hc
    have hi1 : i + 1 ≤ n := by omega
    have hlt : n - (i + 1) < n - i := by omega
    generalize c.d.map byteA = cd at *
    refine ⟨⟨nnI hΩ⟩, _, hac, ?_⟩
    cbv
    refine br (fun g => ?_) (fun g => ?_) <;> cbv
    · have g : c.p = p := by subst hΩ; exact of_decide_eq_true ((by simpa [cmpSS] using (show cmpSS .eql c.p p = true from g)))
      rw [if_pos (by simpa using g)] at hs
      exact .of ((hic i).trans (congrArg i64 (by rw [he, hs])))
    · have g : c.p ≠ p := by subst hΩ; exact fun e => by rw [e] at g; have h : cmpSS .eql p p = false := g; simp [cmpSS] at h
      rw [if_neg (by simpa using g)] at hs
      exact ⟨i + 1, ⟨hi1, by rw [he, hs]⟩, hlt, Sbs.mk rfl rfl ⟨rfl, rfl, incI hΩ (by omega), trivial⟩⟩
  · have h := ltZf hΩ h
    have h : i = n := by rw [hlen] at h; subst hΩ; have h : (n : Int) ≤ (i : Int) := h; omega
    exact .of (congrArg i64 (by rw [he, h, hend]))
end Go.Proofs.YtidlnilcdmhkiaaGreatDoor

/- Walks: the place of a path. Plain theorems. -/
set_option linter.unusedVariables false
set_option linter.unusedSimpArgs false
namespace Go.Proofs.YtidlnilcdmhkiaaGreatDoor
open Go Go.Fw
set_option maxRecDepth 100000
theorem c_place1 (f : Fil) (p : List UInt8) : PCtr PP n_impl_Disk_place_1 [f.enc false, str p] (i64 (Lib.compareBytes f.p p)) := by
  obtain ⟨Ω, hΩ⟩ : ∃ Ω, Ω = std := ⟨_, rfl⟩
  have hc := c_CompareS f.p p
  generalize Lib.compareBytes f.p p = r at *
  unfold Fil.enc
  generalize f.d.map byteA = cd
  have htab := tab
  have hmo := hmo
  refine PCtr.walk tab hΩ fn_impl_Disk_place_1 rfl ?_
  generalize PP = P at *
  cbv
  refine call_pure hΩ 3 hc rfl (fits _) rfl rfl ?_
  cbv
  exact .same
theorem wrapU {x : Int} (h0 : 0 ≤ x) (h1 : x < 18446744073709551616) : IntKind.u64.wrap x = x := by
  simp [IntKind.wrap, IntKind.bits, IntKind.signed]
  omega
theorem midI {Ω : Opq} (hΩ : Ω = std) {i j : Nat} (hij : i < j) (hj : j ≤ 1048576) : Ω.wrap .i64 (Ω.ar .shr .u64 (Ω.wrap .u64 (Ω.ar .add .i64 (Ω.int i) (Ω.int j))) 1) = Ω.int ((i + j) / 2) := by
  subst hΩ
  show IntKind.i64.wrap (IntKind.u64.wrap (IntKind.i64.wrap ((i : Int) + j)) / 2 ^ 1) = (((i + j) / 2 : Nat) : Int)
  have e1 : IntKind.i64.wrap ((i : Int) + j) = (i : Int) + j := wrap64 (by omega) (by omega)
  rw [e1, wrapU (by omega) (by omega), wrap64 (by omega) (by omega)]
  omega
/-- Is a path among the files. -/
def hasF (l : List Fil) (p : List UInt8) : Bool := match l[plcF l p]? with | some f => decide (f.p = p) | none => false
/-- Where the search of a path ends, in files in any order. -/
def binG (l : List Fil) (p : List UInt8) : Nat → Nat → Nat → Nat
  | 0, i, _ => i
  | k + 1, i, j => if i < j then (match l[(i + j) / 2]? with
    | some c => if Lib.compareBytes c.p p < 0 then binG l p k ((i + j) / 2 + 1) j else binG l p k i ((i + j) / 2)
    | none => i) else i
def plcB (l : List Fil) (p : List UInt8) : Nat := binG l p l.length 0 l.length
def hasB' (l : List Fil) (p : List UInt8) : Bool := match l[plcB l p]? with | some f => decide (f.p = p) | none => false
theorem binG_lt {l : List Fil} {p : List UInt8} {k i j m : Nat} {c : Fil} (h : i < j) (hm : m = (i + j) / 2) (hc : l[m]? = some c) : binG l p (k + 1) i j = if Lib.compareBytes c.p p < 0 then binG l p k (m + 1) j else binG l p k i m := by
  subst hm
  rw [binG, if_pos h, hc]
theorem binG_ge {l : List Fil} {p : List UInt8} {k i j : Nat} (h : j ≤ i) : binG l p k i j = i := by
  cases k with
  | zero => rfl
  | succ k => rw [binG, if_neg (by omega)]
theorem binG_ord {l : List Fil} {p : List UInt8} (ho : ordF l) : ∀ {k i j : Nat}, i ≤ j → j ≤ l.length → j - i ≤ k → (∀ k f, l[k]? = some f → k < i → f.p < p) → (∀ k f, l[k]? = some f → j ≤ k → ¬ f.p < p) → binG l p k i j = plcF l p
  | 0, i, j, h1, h2, h3, h4, h5 => by
    have : i = j := by omega
    subst this
    exact (plcF_of h2 h4 h5).symm
  | k + 1, i, j, h1, h2, h3, h4, h5 => by
    by_cases h : i < j
    · obtain ⟨c, hc⟩ := at_of (cs := l) (i := (i + j) / 2) (by omega)
      rw [binG_lt h rfl hc]
      have hcl := cmpB_lt (x := c.p) (y := p)
      split
      · rename_i g
        exact binG_ord ho (by omega) h2 (by omega) (ordF_lo ho hc (hcl.1 g)) h5
      · rename_i g
        exact binG_ord ho (by omega) (by omega) (by omega) h4 (ordF_hi ho hc fun g' => g (hcl.2 g'))
    · rw [binG_ge (by omega)]
      have : i = j := by omega
      subst this
      exact (plcF_of h2 h4 h5).symm
theorem plcB_ord {l : List Fil} (ho : ordF l) (p : List UInt8) : plcB l p = plcF l p := binG_ord ho (Nat.zero_le _) (Nat.le_refl _) (by omega) (fun _ _ _ h => by omega) (fun k f hf h => absurd (List.getElem?_eq_some_iff.1 hf).1 (by omega))
theorem hasB_ord {l : List Fil} (ho : ordF l) (p : List UInt8) : hasB' l p = hasF l p := by unfold hasB' hasF; rw [plcB_ord ho]
theorem c_BinG (l : List Fil) (p : List UInt8) (hl : l.length ≤ 1048576) : PCtr PP n_slices_BinarySearchFunc_L_impl_File_impl_File_string [.sl false 2 (l.map (Fil.enc false)), str p, .clo n_impl_Disk_place_1 []] (.tup [i64 (plcB l p : Int), boo (hasB' l p)]) := by
  obtain ⟨Ω, hΩ⟩ : ∃ Ω, Ω = std := ⟨_, rfl⟩
  have hrun : ∀ f : Fil, PCtr PP (Ω.cloN n_impl_Disk_place_1) (Ω.cloA n_impl_Disk_place_1 [f.enc false, str p] []) (i64 (Lib.compareBytes f.p p)) := by subst hΩ; exact fun f => c_place1 f p
  obtain ⟨n, hn⟩ : ∃ n, n = l.length := ⟨_, rfl⟩
  obtain ⟨xs, hxs⟩ : ∃ xs, xs = l.map (Fil.enc false) := ⟨_, rfl⟩
  rw [← hxs]
  have hlen : Ω.int (Ω.len xs) = Ω.int n := by subst hΩ; show ((xs.length : Nat) : Int) = _; rw [hxs, List.length_map, hn]; rfl
  have hat : ∀ i c, l[i]? = some c → xs[(Ω.int i).toNat]? = some (c.enc false) := fun i c hc => (rdI hΩ hxs hc).trans rfl
  have hnl : ∀ i, i < n → ∃ c, l[i]? = some c := fun i hi => at_of (by omega)
  have hyes1 : ∀ j, plcB l p = j → ∀ c, l[j]? = some c → hasB' l p = decide (c.p = p) := fun j hpl c hc => by unfold hasB'; rw [hpl, hc]
  have hno1 : ∀ j, plcB l p = j → n ≤ j → hasB' l p = false := fun j hpl h => by unfold hasB'; rw [hpl, List.getElem?_eq_none (by omega)]
  have hpl0 : plcB l p = binG l p n 0 n := by unfold plcB; rw [hn]
  have hbl := @binG_lt l p
  have hbg := @binG_ge l p
  generalize hasB' l p = hs at *
  generalize plcB l p = pl at *
  generalize binG l p = bg at *
  have htab := tab
  have hmo := hmo
  refine PCtr.walk tab hΩ fn_slices_BinarySearchFunc_L_impl_File_impl_File_string rfl ?_
  generalize PP = P at *
  cbv
  refine loopX htab hΩ (fun i : Nat × Nat => ⟨[(0, .sl false 2 xs), (1, str p), (2, .clo n_impl_Disk_place_1 []), (8, i64 (Ω.int n)), (9, i64 (Ω.int i.1)), (10, i64 (Ω.int i.2))], 49, []⟩) (fun i => i.1 ≤ i.2 ∧ i.2 ≤ n ∧ ∃ k, i.2 - i.1 ≤ k ∧ pl = bg k i.1 i.2) (fun i => i.2 - i.1) (0, n) ⟨Nat.zero_le _, Nat.le_refl _, n, Nat.sub_le _ _, hpl0⟩
    (Sbs.mk rfl rfl ⟨rfl, rfl, rfl, congrArg i64 hlen, zeroI hΩ, congrArg i64 hlen, trivial⟩) ?_
  rintro ⟨i, j⟩ ⟨hij, hj, k, hk, hpk⟩
  dsimp only at *
  cbv
  refine br (fun h => ?_) (fun h => ?_) <;> cbv
  · have h := ltZt hΩ h
    have h : i < j := by subst hΩ; have h : (i : Int) < (j : Int) := h; omega
    obtain ⟨m, hm⟩ : ∃ m, m = (i + j) / 2 := ⟨_, rfl⟩
    have hmid := midI hΩ h (by omega)
    rw [← hm] at hmid
    have hm1 : i ≤ m := by omega
    have hm2 : m < j := by omega
    obtain ⟨c, hc⟩ := hnl m (by omega)
    obtain ⟨k, rfl⟩ : ∃ k', k = k' + 1 := ⟨k - 1, by omega⟩
    rw [hbl h hm hc] at hpk
    clear hm
    have hac := hat m c hc
    have hrc := hrun c
    generalize Lib.compareBytes c.p p = q at *
    unfold Fil.enc at hac hrc
    generalize c.d.map byteA = cd at *
    refine ⟨⟨by decide, by decide⟩, ⟨by show 0 ≤ Ω.wrap .i64 (Ω.ar .shr .u64 (Ω.wrap .u64 (Ω.ar .add .i64 (Ω.int i) (Ω.int j))) 1); rw [hmid]; exact nnI hΩ⟩, _, (by show xs[(Ω.wrap .i64 (Ω.ar .shr .u64 (Ω.wrap .u64 (Ω.ar .add .i64 (Ω.int i) (Ω.int j))) 1)).toNat]? = _; rw [hmid]; exact hac), ?_⟩
    cbv
    refine call_pure hΩ 4 hrc (ro_cloA hΩ rfl rfl) (fits _) rfl rfl ?_
    cbv
    refine br (fun g => ?_) (fun g => ?_) <;> cbv
    · have g := ltZt hΩ g
      exact ⟨(m + 1, j), ⟨by show m + 1 ≤ j; omega, hj, k, by show j - (m + 1) ≤ k; omega, by rw [hpk, if_pos g]⟩, by show j - (m + 1) < j - i; omega, Sbs.mk rfl rfl ⟨rfl, rfl, rfl, rfl, (congrArg (fun z => i64 (Ω.ar .add .i64 z 1)) hmid).trans (incI hΩ (by omega)), rfl, trivial⟩⟩
    · have g := ltZf hΩ g
      exact ⟨(i, m), ⟨hm1, by show m ≤ n; omega, k, by show m - i ≤ k; omega, by rw [hpk, if_neg (by omega)]⟩, by show m - i < j - i; omega, Sbs.mk rfl rfl ⟨rfl, rfl, rfl, rfl, rfl, congrArg i64 hmid, trivial⟩⟩
  · have h := ltZf hΩ h
    have h : j = i := by subst hΩ; have h : (j : Int) ≤ (i : Int) := h; omega
    subst h
    have hpl : pl = j := hpk.trans (hbg (Nat.le_refl _))
    have hic : i64 (Ω.int j) = i64 (pl : Int) := by rw [hpl]; subst hΩ; rfl
    have hyes := hyes1 j hpl
    have hno := hno1 j hpl
    refine br (fun g => ?_) (fun g => ?_) <;> cbv
    · have g := ltZt hΩ g
      have g : j < n := by subst hΩ; have g : (j : Int) < (n : Int) := g; omega
      obtain ⟨c, hc⟩ := hnl j g
      have hac := hat j c hc
      have hrc := hrun c
      have hyes := hyes c hc
      have hcz := cmpB_zero (x := c.p) (y := p)
      generalize Lib.compareBytes c.p p = q at *
      unfold Fil.enc at hac hrc
      generalize c.d.map byteA = cd at *
      refine ⟨⟨nnI hΩ⟩, _, hac, ?_⟩
      cbv
      refine call_pure hΩ 4 hrc (ro_cloA hΩ rfl rfl) (fits _) rfl rfl ?_
      cbv
      have hb : Ω.ite true (Ω.cmp .eql q 0) false = hs := by rw [hyes]; subst hΩ; exact decide_eq_decide.2 hcz
      exact .of (by show A.tup [i64 (Ω.int j), boo (Ω.ite true (Ω.cmp .eql q 0) false)] = _; rw [hb, hic]; rfl)
    · have g := ltZf hΩ g
      have g : n ≤ j := by subst hΩ; have g : (n : Int) ≤ (j : Int) := g; omega
      exact .of (by show A.tup [i64 (Ω.int j), boo false] = _; rw [hno g, hic]; rfl)
end Go.Proofs.YtidlnilcdmhkiaaGreatDoor

/- Walks: a path's place and bytes. Plain theorems. -/
set_option linter.unusedVariables false
set_option linter.unusedSimpArgs false
namespace Go.Proofs.YtidlnilcdmhkiaaGreatDoor
open Go Go.Fw
set_option maxRecDepth 100000
theorem c_placeB (x : Dsk) (p : List UInt8) (hl : x.f.length ≤ 1048576) : PCtr PP n_impl_Disk_place [x.enc false false, str p] (.tup [i64 (plcB x.f p : Int), boo (hasB' x.f p)]) := by
  obtain ⟨Ω, hΩ⟩ : ∃ Ω, Ω = std := ⟨_, rfl⟩
  have hb := c_BinG x.f p hl
  unfold Dsk.enc
  obtain ⟨l, v1, v2, v3, v4⟩ := x
  dsimp only at *
  generalize plcB l p = pl at *
  generalize hasB' l p = hs at *
  obtain ⟨z, hz⟩ : ∃ z : Int, (pl : Int) = z := ⟨_, rfl⟩
  rw [hz] at hb ⊢
  clear hz
  generalize l.map (Fil.enc false) = xs at *
  have htab := tab
  have hmo := hmo
  refine PCtr.walk tab hΩ fn_impl_Disk_place rfl ?_
  generalize PP = P at *
  cbv
  refine call_pure hΩ 4 hb rfl (fits _) rfl rfl ?_
  cbv
  exact .same
/-- A path's bytes; none where it is not. -/
def datB (l : List Fil) (p : List UInt8) : List UInt8 := if hasB' l p then match l[plcB l p]? with | some f => f.d | none => [] else []
def datF (l : List Fil) (p : List UInt8) : List UInt8 := if hasF l p then match l[plcF l p]? with | some f => f.d | none => [] else []
theorem c_dataB (x : Dsk) (p : List UInt8) (hl : x.f.length ≤ 1048576) : PCtr PP n_impl_Disk_data [x.enc false false, str p] (.tup [.sl false 1 ((datB x.f p).map byteA), boo (hasB' x.f p)]) := by
  obtain ⟨Ω, hΩ⟩ : ∃ Ω, Ω = std := ⟨_, rfl⟩
  have hb := c_placeB x p hl
  unfold Dsk.enc at *
  obtain ⟨l, v1, v2, v3, v4⟩ := x
  dsimp only at *
  have hd0 : hasB' l p = false → datB l p = [] := fun h => by unfold datB; rw [h]; rfl
  have hd1 : hasB' l p = true → ∃ f, l[plcB l p]? = some f ∧ datB l p = f.d := fun h => by
    unfold datB
    rw [if_pos h]
    unfold hasB' at h
    cases hf : l[plcB l p]? with
    | none => rw [hf] at h; cases h
    | some f => exact ⟨f, rfl, rfl⟩
  obtain ⟨xs, hxs⟩ : ∃ xs, xs = l.map (Fil.enc false) := ⟨_, rfl⟩
  rw [← hxs] at hb ⊢
  have hat : ∀ (i : Nat) (c : Fil), l[i]? = some c → xs[((i : Int)).toNat]? = some (.agg [str c.p, .sl false 1 (c.d.map byteA)]) := fun i c hc => (rdI rfl hxs hc).trans rfl
  generalize datB l p = df at *
  generalize plcB l p = pl at *
  generalize hasB' l p = hs at *
  have hat := hat pl
  have hz0 : (0 : Int) ≤ (pl : Int) := by omega
  obtain ⟨z, hz⟩ : ∃ z : Int, (pl : Int) = z := ⟨_, rfl⟩
  rw [hz] at hb hat hz0
  clear hz
  obtain ⟨ds, hds⟩ : ∃ ds, ds = df.map byteA := ⟨_, rfl⟩
  rw [← hds]
  have htab := tab
  have hmo := hmo
  refine PCtr.walk tab hΩ fn_impl_Disk_data rfl ?_
  generalize PP = P at *
  cbv
  refine call_pure hΩ 4 hb rfl (fits _) rfl rfl ?_
  cbv
  refine br (fun h => ?_) (fun h => ?_) <;> cbv
  · have h := notA hΩ h
    rw [hd0 h] at hds
    rw [hds, h]
    exact ⟨2, ⟨rfl, rfl, trivial⟩⟩
  · have h := notB hΩ h
    obtain ⟨f, hf, hdf⟩ := hd1 h
    have hac := hat f hf
    rw [← hdf, ← hds] at hac
    refine ⟨⟨hz0⟩, _, hac, ?_⟩
    cbv
    exact .of (by rw [h])
theorem datB_ord {l : List Fil} (ho : ordF l) (p : List UInt8) : datB l p = datF l p := by unfold datB datF; rw [hasB_ord ho, plcB_ord ho]
theorem c_data (x : Dsk) (p : List UInt8) (hl : x.f.length ≤ 1048576) (ho : ordF x.f) : PCtr PP n_impl_Disk_data [x.enc false false, str p] (.tup [.sl false 1 ((datF x.f p).map byteA), boo (hasF x.f p)]) := by
  have := c_dataB x p hl
  rw [datB_ord ho, hasB_ord ho] at this
  exact this
end Go.Proofs.YtidlnilcdmhkiaaGreatDoor

/- Plain laws of disks in order. -/
set_option linter.unusedVariables false
set_option linter.unusedSimpArgs false
namespace Go.Proofs.YtidlnilcdmhkiaaGreatDoor
open Go Go.Fw
theorem leB_false {a b : List UInt8} (h : leB a b = false) : b < a := by
  unfold leB at h
  rw [Go.Proofs.bytesLess_eq] at h
  simp only [Bool.or_eq_false_iff, decide_eq_false_iff_not, beq_eq_false_iff_ne] at h
  exact (List.le_iff_lt_or_eq.1 (List.not_lt.1 h.1)).resolve_right fun e => h.2 e.symm
theorem filsF_ord : ∀ {l : List Fil} {q : Option (List UInt8)}, filsF q l = 0 → ordF l ∧ (∀ x, q = some x → ∀ f ∈ l, x < f.p) ∧ ∀ f ∈ l, pathF f.p = 0 ∧ f.d.length ≤ 4000
  | [], q, h => ⟨List.Pairwise.nil, by simp, by simp⟩
  | f :: fs, q, h => by
    rw [filsF] at h
    split at h
    · rename_i h0; exact absurd h h0
    · rename_i h0
      split at h
      · cases h
      · rename_i h1
        split at h
        · cases h
        · rename_i h2
          obtain ⟨i1, i2, i3⟩ := filsF_ord h
          have h0 : pathF f.p = 0 := by simpa using h0
          refine ⟨List.pairwise_cons.2 ⟨fun g hg => i2 _ rfl g hg, i1⟩, fun x hx g hg => ?_, fun g hg => ?_⟩
          · subst hx
            have : x < f.p := leB_false (by simpa using h1)
            rcases List.mem_cons.1 hg with rfl | hg
            · exact this
            · exact List.lt_trans this (i2 _ rfl g hg)
          · rcases List.mem_cons.1 hg with rfl | hg
            · exact ⟨h0, by omega⟩
            · exact i3 g hg
theorem plcF_cons (f : Fil) (l : List Fil) (p : List UInt8) : plcF (f :: l) p = if f.p < p then plcF l p + 1 else 0 := by
  unfold plcF
  by_cases h : f.p < p
  · rw [List.takeWhile_cons_of_pos (by simpa using h), if_pos h]; rfl
  · rw [List.takeWhile_cons_of_neg (by simpa using h), if_neg h]; rfl
theorem hasF_cons (f : Fil) (l : List Fil) (p : List UInt8) : hasF (f :: l) p = if f.p < p then hasF l p else decide (f.p = p) := by
  unfold hasF
  rw [plcF_cons]
  by_cases h : f.p < p
  · rw [if_pos h, if_pos h]; rfl
  · rw [if_neg h, if_neg h]; rfl
theorem hasF_gt : ∀ {l : List Fil} {p : List UInt8}, (∀ f ∈ l, p < f.p) → hasF l p = false
  | [], _, _ => rfl
  | f :: l, p, h => by
    have h1 := h f (by simp)
    rw [hasF_cons, if_neg (List.lt_asymm h1)]
    exact decide_eq_false fun e => by subst e; exact List.lt_irrefl _ h1
theorem fndF_of : ∀ {l : List Fil} {p : List UInt8} {i : Nat}, ordF l → idxFrom (fun f : Fil => decide (f.p = p)) i l = if hasF l p then ((i + plcF l p : Nat) : Int) else -1
  | [], _, _, _ => rfl
  | f :: l, p, i, h => by
    obtain ⟨h1, h2⟩ := List.pairwise_cons.1 h
    rw [idxFrom, hasF_cons, plcF_cons, fndF_of h2]
    by_cases hp : f.p = p
    · have hn : ¬ f.p < p := by subst hp; exact List.lt_irrefl _
      rw [if_neg hn, if_neg hn, decide_eq_true hp]; simp
    · by_cases hl : f.p < p
      · simp only [hp, hl, decide_false, if_true, Bool.false_eq_true, if_false]
        have : i + 1 + plcF l p = i + (plcF l p + 1) := by omega
        rw [this]
      · have hg : p < f.p := (List.le_iff_lt_or_eq.1 (List.not_lt.1 hl)).resolve_right fun e => hp e.symm
        rw [hasF_gt fun g hg' => List.lt_trans hg (h1 g hg')]
        simp [hp, hl]
end Go.Proofs.YtidlnilcdmhkiaaGreatDoor

/- Which paths are numbers' paths. Plain theorems. -/
set_option linter.unusedVariables false
set_option linter.unusedSimpArgs false
namespace Go.Proofs.YtidlnilcdmhkiaaGreatDoor
open Go Go.Fw
set_option maxRecDepth 100000
/-- What the spec writes for any number. -/
def genS (n : Int) : List UInt8 := if inB n 1 999999 then genB n else []
theorem c_GenPathS (n : Int) : PCtr PP n_spec_GenPath [i64 n] (str (genS n)) := by
  by_cases hn : inB n 1 999999 = true
  · have h := hn
    unfold inB at h
    simp at h
    have := c_GenPath n (by omega) (by omega)
    unfold genS
    rw [if_pos hn]
    exact this
  · have hin := c_l1In n 1 999999
    unfold genS
    rw [if_neg hn]
    rw [Bool.eq_false_iff.2 hn] at hin
    obtain ⟨Ω, hΩ⟩ : ∃ Ω, Ω = std := ⟨_, rfl⟩
    clear hn
    have htab := tab
    have hmo := hmo
    refine PCtr.walk tab hΩ fn_spec_GenPath rfl ?_
    generalize PP = P at *
    cbv
    refine call_pure hΩ 3 hin rfl (fits _) rfl rfl ?_
    cbv
    refine br (fun h => ?_) (fun h => (notF hΩ h).elim)
    cbv
    exact .same
/-- The number a path tells. -/
def genV (s : List UInt8) : Int := numM 6 (s.drop 4)
def isG (s : List UInt8) : Bool := decide (1 ≤ genV s) && decide (s.length = 10)
theorem beg_split {s : List UInt8} (h : begB genH s = true) : s = genH ++ s.drop 4 := by
  rw [begB_eq, decide_eq_true_eq] at h
  have h2 : s.take 4 = genH := h.2
  rw [← h2, List.take_append_drop]
theorem genB_len (n : Int) : (genB n).length = 10 := by unfold genB; rw [List.length_append, digs_len]; rfl
/-- The spec's question at a path and the implementation's agree. -/
theorem isG_eq {s : List UInt8} (h : begB genH s = true) : isG s = (decide (0 ≤ genV s) && decide (genS (if genV s < 0 then 0 else genV s) = s)) := by
  have hs := beg_split h
  have hl4 : 4 ≤ s.length := by rw [hs, List.length_append]; show 4 ≤ 4 + _; omega
  rw [Bool.eq_iff_iff]
  unfold isG
  simp only [Bool.and_eq_true, decide_eq_true_eq]
  constructor
  · rintro ⟨h1, h2⟩
    refine ⟨by omega, ?_⟩
    rw [if_neg (by omega)]
    have hl : (s.drop 4).length = 6 := by rw [List.length_drop]; omega
    have hv : genV s = numL (s.drop 4) 0 := by unfold genV numM; rw [if_neg (by rw [hl]; omega)]
    rw [hv] at h1 ⊢
    obtain ⟨m, e1, e2, e3⟩ := digs_numL (s.drop 4) 0 0 (by show 0 ≤ numL (s.drop 4) 0; omega)
    have e1 : numL (s.drop 4) 0 = (m : Int) := e1
    rw [hl] at e2 e3
    rw [e1] at h1 ⊢
    have e2 : digs 6 m = s.drop 4 := by simpa [digs] using e2
    have hin : inB (m : Int) 1 999999 = true := by unfold inB; simp; omega
    unfold genS genB
    rw [if_pos hin]
    show genH ++ digs 6 m = s
    rw [e2, ← hs]
  · rintro ⟨h1, h2⟩
    rw [if_neg (by omega)] at h2
    unfold genS at h2
    split at h2
    · rename_i hin
      unfold inB at hin
      simp at hin
      refine ⟨by omega, ?_⟩
      rw [← h2]; exact genB_len _
    · rw [← h2] at hl4; simp at hl4
/-- The numbers that files' paths tell. -/
def gensF (l : List Fil) : List Int := ((pathsF l genH).filter isG).map genV
end Go.Proofs.YtidlnilcdmhkiaaGreatDoor

/- Walks: numbers' lists, one behind another. Plain theorems. -/
set_option linter.unusedVariables false
set_option linter.unusedSimpArgs false
namespace Go.Proofs
open Go.Shelf
def Tryz.growI_ren : Go.Shelf.Ren := ⟨fun | 4 => 182 | n => n, fun | 22 => 60 | 25 => 2 | 3 => 3 | 4 => 4 | 9 => 9 | 20 => 20 | 0 => 0 | n => n, fun | n => n⟩
theorem Tryz.growI : Go.Proofs.Lays8.n4 Tryz.prog Tryz.growI_ren where
  mixed := by kernel_rfl
  f4 := ⟨"slices.Grow[[]int64,int64]", by decide, Tryz.func182.trans (congrArg some (by kernel_rfl))⟩
  t0 := Tryz.underlying0
  a0 := Tryz.isAgg0
  z0 := Tryz.sizeOf0
  v0 := Tryz.zeroValue0
  t3 := Tryz.underlying3
  a3 := Tryz.isAgg3
  z3 := Tryz.sizeOf3
  v3 := Tryz.zeroValue3
  t4 := Tryz.underlying4
  a4 := Tryz.isAgg4
  z4 := Tryz.sizeOf4
  v4 := Tryz.zeroValue4
  t9 := Tryz.underlying9
  a9 := Tryz.isAgg9
  z9 := Tryz.sizeOf9
  v9 := Tryz.zeroValue9
  t20 := Tryz.underlying20
  a20 := Tryz.isAgg20
  z20 := Tryz.sizeOf20
  v20 := Tryz.zeroValue20
  t22 := Tryz.underlying60
  a22 := Tryz.isAgg60
  z22 := Tryz.sizeOf60
  v22 := Tryz.zeroValue60

end Go.Proofs
namespace Go.Proofs.YtidlnilcdmhkiaaGreatDoor
open Go Go.Fw Go.Proofs
set_option maxRecDepth 100000
theorem frz_S (l : List (List UInt8)) : (l.map str).map frz = l.map str := by rw [List.map_map]; exact List.map_congr_left fun c _ => rfl
theorem roF_S (l : List (List UInt8)) : roFree (.sl true 1 (l.map str)) = true := roFAll fun x hx => by obtain ⟨c, _, rfl⟩ := List.mem_map.1 hx; rfl
theorem addF {Ω : Opq} (hΩ : Ω = std) {x y z : Int} (h : x + y = z) (h0 : -9223372036854775808 ≤ z) (h1 : z ≤ 9223372036854775807) : Ω.ar .add .i64 x y = z := by subst hΩ; subst h; exact wrap64 h0 h1
theorem relC {w : World} {G : Nat → Prop} {x : A} {xs : List A} {vs : List Value} (h : RelL w G (x :: xs) vs []) : ∃ v us, vs = v :: us ∧ Rel w G x v [] ∧ RelL w G xs us [] := by
  generalize hF : ([] : List Nat) = F at h
  generalize hx : x :: xs = ys at h
  cases h with
  | nil => cases hx
  | cons h hl =>
    cases hx
    obtain ⟨rfl, rfl⟩ := List.append_eq_nil_iff.1 hF.symm
    exact ⟨_, _, rfl, h, hl⟩
theorem c_GrowI (n : Nat) (hn : n ≤ 8388608) : PCtr PP n_slices_Grow_L_int64_int64 [.nil, i64 (n : Int)] (.sl true 1 []) := by
  refine ⟨fn_slices_Grow_L_int64_int64.1, fun w G vs hG hl => ?_⟩
  obtain ⟨v1, us, rfl, h, hl⟩ := relC hl
  obtain ⟨v2, us, rfl, h2, hl⟩ := relC hl
  cases hl
  cases h
  cases h2
  rcases Nat.eq_zero_or_pos n with rfl | h0
  · refine Calls.mono (Any8.slices_Grow_room Tryz.growI none 0 0 0 w (by omega) (by omega) (by omega) (by omega)) ?_
    rintro e w' ⟨rfl, rfl⟩
    exact ⟨_, [], rfl, Go.RowKit.Below.refl _ _, List.nodup_nil, by simp, .nils⟩
  · have hi : (PP.info? (Tryz.growI_ren.t 25)).map (fun i => (i.zero, i.size, i.bytes)) = some (some (.int .i64 0), 1, 8) := by kernel_rfl
    obtain ⟨i0, hi0, hi⟩ := Option.map_eq_some_iff.1 hi
    obtain ⟨hz0, hs0, hb0⟩ : i0.zero = some (.int .i64 0) ∧ i0.size = 1 ∧ i0.bytes = 8 := by simpa using hi
    refine Calls.mono (Any8.slices_Grow_grow Tryz.growI i0 (.int .i64 0) hi0 hz0 (by omega) none 0 0 n [] w (by omega) (by omega) (by rw [hb0]; omega) (by omega) (by simp) (fun _ => rfl) (fun a h => by cases h)) ?_
    rintro e w' ⟨rfl, rfl⟩
    refine ⟨_, [w.heap.size], rfl, ⟨rfl, rfl, rfl, by simp, fun b hb => heap_alloc_old w.drew _ hb⟩, by simp, by simp, ?_⟩
    refine .ow (F := []) (heap_alloc_new w.drew _) (by simp) rfl rfl .nil (Nat.zero_le _) (grownCap_le_maxLen w (0 + n) 0 _ (by unfold maxLen; omega)) ?_ (by simp)
    have hge := grownCap_ge w (0 + n) 0 (Tryz.growI_ren.t 25)
    have hzc : (Value.int IntKind.i64 0).cells = #[.int .i64 0] := rfl
    rw [Nat.zero_add] at hge
    simp only [hzc, Builtin.zeroCells, Array.size_append]
    simp
    omega
theorem flat_take_le {ls : List (List Int)} {B : Nat} (hs : ∀ l ∈ ls, l.length ≤ B) (i : Nat) : (ls.take i).flatten.length ≤ i * B := by
  induction i with
  | zero => simp
  | succ i ih =>
    rw [Nat.succ_mul]
    rcases Nat.lt_or_ge i ls.length with h | h
    · rw [List.take_add_one, List.getElem?_eq_getElem h]
      have := hs _ (List.getElem_mem h)
      simp only [Option.toList_some, List.flatten_append, List.length_append, List.flatten_cons, List.flatten_nil, List.append_nil]
      omega
    · rw [List.take_of_length_le (by omega)]; rw [List.take_of_length_le h] at ih; omega
theorem c_ConcatI (ls : List (List Int)) (hn : ls.length ≤ 4) (hs : ∀ l ∈ ls, l.length ≤ 1048576) :
    PCtr PP n_slices_Concat_L_int64_int64 [.sl false 1 (ls.map fun l => .sl false 1 (l.map i64))] (.sl true 1 (ls.flatten.map i64)) := by
  obtain ⟨Ω, hΩ⟩ : ∃ Ω, Ω = std := ⟨_, rfl⟩
  obtain ⟨F, hF⟩ : ∃ F : List Int → List A, F = fun l => l.map i64 := ⟨_, rfl⟩
  have hFm : ∀ t : List Int, t.map i64 = F t := fun t => by rw [hF]
  have hFn : ∀ t, (∀ y ∈ F t, noOwn y = true) ∧ (∀ c ∈ flat (F t), okCell c = true) := fun t => by rw [hF]; exact ⟨(noInt t).1, (noInt t).2.1⟩
  have hlen : ∀ t : List Int, (F t).length = t.length := fun t => by rw [hF, List.length_map]
  have hlO : ∀ t : List Int, Ω.len (F t) = (F t).length := fun t => by subst hΩ; rfl
  simp only [hFm]
  obtain ⟨S, hS⟩ : ∃ S : Nat → Nat, S = fun i => (ls.take i).flatten.length := ⟨_, rfl⟩
  obtain ⟨C, hC⟩ : ∃ C : Nat → List A, C = fun i => F (ls.take i).flatten := ⟨_, rfl⟩
  have hCl : ∀ i, (C i).length = S i := fun i => by rw [hC, hS]; exact hlen _
  have hS0 : S 0 = 0 := by rw [hS]; rfl
  have hC0 : C 0 = [] := by rw [hC, hF]; rfl
  have hSi : ∀ i c, ls[i]? = some c → S (i + 1) = S i + c.length := fun i c h => by rw [hS]; simp only [List.take_add_one, h]; simp
  have hCi : ∀ i c, ls[i]? = some c → C i ++ F c = C (i + 1) := fun i c h => by rw [hC, hF]; simp only [List.take_add_one, h]; simp
  have hSb : ∀ i, S i ≤ i * 1048576 := fun i => by rw [hS]; exact flat_take_le hs i
  obtain ⟨n, hN⟩ : ∃ n, n = ls.length := ⟨_, rfl⟩
  have hfin : F ls.flatten = C n := by rw [hC, hN]; simp only [List.take_length]
  have hgr := c_GrowI (S n) (by have := hSb n; omega)
  rw [hfin]
  obtain ⟨ys, hys⟩ : ∃ ys, ys = ls.map fun l => A.sl false 1 (F l) := ⟨_, rfl⟩
  have hyl : ys.length = ls.length := by rw [hys, List.length_map]
  rw [← hys]
  clear hfin hS hC hF
  have htab := tab
  refine PCtr.walk tab hΩ fn_slices_Concat_L_int64_int64 rfl ?_
  generalize PP = P at *
  cbv
  refine loopX htab hΩ (fun i : Nat => ⟨[(0, .sl false 1 ys), (3, i64 (Ω.int (S i))), (9, .sl false 1 ys), (10, i64 (Ω.int (Ω.len ys))), (11, i64 (Ω.int i))], 36, []⟩) (fun i => i ≤ n) (fun i => n - i) 0 (Nat.zero_le _)
    (Sbs.mk rfl rfl ⟨rfl, by rw [hS0]; exact zeroI hΩ, rfl, rfl, zeroI hΩ, trivial⟩) (fun i hi => ?_)
  cbv
  refine br (fun h => ?_) (fun h => ?_) <;> cbv
  · replace h := ltI hΩ h
    obtain ⟨c, hc⟩ := at_of (cs := ls) (by omega : i < _)
    have hadd : Ω.ar .add .i64 (Ω.int (S i)) (Ω.int (Ω.len (F c))) = Ω.int (S (i + 1)) := by
      have h1 := hSi i c hc
      have h2 := hSb (i + 1)
      rw [hlO, hlen]
      subst hΩ
      exact addF rfl (by show (S i : Int) + c.length = (S (i + 1) : Nat); omega) (by show _ ≤ ((S (i + 1) : Nat) : Int); omega) (by show ((S (i + 1) : Nat) : Int) ≤ _; omega)
    refine ⟨⟨nnI hΩ⟩, _, rdI hΩ hys hc, ?_⟩
    cbv
    refine br (fun h => ?_) (fun h => ?_)
    · exact absurd (show Ω.ar .add .i64 (Ω.int (S i)) (Ω.int (Ω.len (F c))) < 0 from ltZt hΩ h) (by rw [hadd]; subst hΩ; exact Int.not_lt.2 (Int.natCast_nonneg _))
    cbv
    exact ⟨i + 1, by omega, by omega, Sbs.mk rfl rfl ⟨rfl, congrArg i64 hadd, rfl, rfl, incI hΩ (by omega), trivial⟩⟩
  · replace h := geI hΩ h
    have hi : n = i := by omega
    subst hi
    refine call_pure hΩ 3 hgr rfl (fitsE (by subst hΩ; rfl)) rfl rfl ?_
    cbv
    refine loopX htab hΩ (fun i : Nat => ⟨[(6, .vw 0 0 (Ω.len (C i))), (25, .sl false 1 ys), (26, i64 (Ω.int (Ω.len ys))), (27, i64 (Ω.int i))], 36, [some ⟨1, C i, false⟩]⟩) (fun i => i ≤ n) (fun i => n - i) 0 (Nat.zero_le _)
      (Sbs.mk rfl (by rw [hC0]) ⟨by rw [hC0]; rfl, rfl, rfl, zeroI hΩ, trivial⟩) (fun i hi => ?_)
    have hlC : Ω.len (C i) = (C i).length := by subst hΩ; rfl
    have htk : Ω.take (Ω.len (C i)) (C i) = C i := takeAll hΩ _
    have hSbi := hSb i
    have hle : Ω.len (C i) ≤ (C i).length := by rw [hlC]; exact Nat.le_refl _
    cbv
    refine br (fun h => ?_) (fun h => ?_) <;> cbv
    · replace h := ltI hΩ h
      obtain ⟨c, hc⟩ := at_of (cs := ls) (by omega : i < _)
      have hn := hFn c
      have hcl := hs c (List.mem_of_getElem? hc)
      have hcl2 := hlen c
      have hCli := hCl i
      have hap : Ω.app (C i) (F c) = C (i + 1) := by rw [← hCi i c hc]; subst hΩ; rfl
      have hpl : Ω.plus (Ω.len (C i)) (Ω.len (F c)) = Ω.len (C (i + 1)) := by rw [← hCi i c hc]; subst hΩ; exact (List.length_append).symm
      refine ⟨⟨nnI hΩ⟩, _, rdI hΩ hys hc, ?_⟩
      cbv
      refine ⟨⟨hn.1, hn.2, by show (Ω.len (C i) + (F c).length) * 8 ≤ 140737488355328; omega, by show Ω.len (C i) + (F c).length ≤ 9223372036854775807; omega⟩, i + 1, by omega, by omega, Sbs.mk rfl (by show [some (Row.mk 1 (Ω.app (Ω.take (Ω.len (C i)) (C i)) (F c)) false)] = _; rw [htk, hap]) ⟨congrArg (A.vw 0 0) hpl, rfl, rfl, incI hΩ (by omega), trivial⟩⟩
    · replace h := geI hΩ h
      have hi : n = i := by omega
      subst hi
      exact ⟨⟨rfl, hle⟩, .of (congrArg (A.sl true 1) htk)⟩
end Go.Proofs.YtidlnilcdmhkiaaGreatDoor

/- Walks: the numbers of a disk's files. Plain theorems. -/
set_option linter.unusedVariables false
set_option linter.unusedSimpArgs false
namespace Go.Proofs.YtidlnilcdmhkiaaGreatDoor
open Go Go.Fw
set_option maxRecDepth 100000
/-- A list that grows at its end, in cells. -/
structure Grw (Ω : Opq) {α : Type} (f : α → A) (F : List α → List A) : Prop where
  nil : F [] = []
  eq : ∀ l, l.map f = F l
  len : ∀ l, (F l).length = l.length
  app : ∀ l x, Ω.app (Ω.take (Ω.len (F l)) (F l)) [f x] = F (l ++ [x])
  plus : ∀ l x, Ω.plus (Ω.len (F l)) (Ω.len [f x]) = Ω.len (F (l ++ [x]))
  lo : ∀ l, Ω.len (F l) = (F l).length
  le : ∀ l, Ω.len (F l) ≤ (F l).length
  tk : ∀ l, Ω.take (Ω.len (F l)) (F l) = F l
  z : Ω.len (F []) = 0
theorem grw {Ω : Opq} (hΩ : Ω = std) {α : Type} (f : α → A) : ∃ F, Grw Ω f F := by
  subst hΩ
  refine ⟨fun l => l.map f, rfl, fun _ => rfl, fun _ => List.length_map _, fun l x => ?_, fun l x => ?_, fun _ => rfl, fun _ => Nat.le_refl _, fun _ => List.take_length, rfl⟩
  · rw [takeAll rfl, List.map_append]; rfl
  · rw [List.map_append]; exact (List.length_append).symm
theorem gensF_at {ps : List (List UInt8)} {i : Nat} {s : List UInt8} (h : ps[i]? = some s) : ((ps.take (i + 1)).filter isG).map genV = ((ps.take i).filter isG).map genV ++ (if isG s then [genV s] else []) := by
  rw [List.take_add_one, h, List.filter_append, List.map_append]
  cases hb : isG s <;> simp [hb]
theorem pathsF_mem {l : List Fil} {p s : List UInt8} (h : s ∈ pathsF l p) : begB p s = true ∧ ∃ f ∈ l, f.p = s := by
  unfold pathsF at h
  rw [List.mem_filter, List.mem_map] at h
  exact ⟨h.2, h.1⟩
theorem c_gens (x : Dsk) (hl : x.f.length ≤ 1048576) (hp : ∀ f ∈ x.f, f.p.length ≤ 1048576) : PCtr PP n_impl_Disk_gens [x.enc false false] (.sl true 1 ((gensF x.f).map i64)) := by
  obtain ⟨Ω, hΩ⟩ : ∃ Ω, Ω = std := ⟨_, rfl⟩
  have hcp := c_paths x genH hl
  have hgl := pathsF_len x.f genH
  have hpm : ∀ s ∈ pathsF x.f genH, 4 ≤ s.length ∧ s.length ≤ 1048576 := fun s hs => by
    obtain ⟨h1, f, hf, rfl⟩ := pathsF_mem hs
    refine ⟨?_, hp f hf⟩
    rw [beg_split h1, List.length_append]; show 4 ≤ 4 + _; omega
  unfold gensF
  generalize pathsF x.f genH = ps at *
  have hpl : ps.length ≤ 1048576 := by omega
  have hnum : ∀ s : List UInt8, s.length ≤ 1048576 → PCtr PP n_impl_number [str (s.drop 4), i64 6] (i64 (genV s)) := fun s hs => c_numberM 6 (by decide) (s.drop 4) (by rw [List.length_drop]; omega)
  have hsg : ∀ s : List UInt8, Ω.segS (Ω.nat 4) (Ω.lenS s) s = s.drop 4 := fun s => by subst hΩ; show (s.take s.length).drop 4 = _; rw [List.take_length]
  obtain ⟨W, hW⟩ : ∃ W : Nat → List Int, W = fun i => ((ps.take i).filter isG).map genV := ⟨_, rfl⟩
  have hWs : ∀ i s, ps[i]? = some s → W (i + 1) = W i ++ (if isG s then [genV s] else []) := fun i s h => by rw [hW]; exact gensF_at h
  have hW0 : W 0 = [] := by rw [hW]; rfl
  have hWl : ∀ i, (W i).length ≤ i := fun i => by rw [hW]; dsimp only; rw [List.length_map]; exact Nat.le_trans (List.length_filter_le _ _) (by rw [List.length_take]; omega)
  have hWn : (ps.filter isG).map genV = W ps.length := by rw [hW]; dsimp only; rw [List.take_length]
  rw [hWn]
  clear hW hWn
  obtain ⟨F, hF⟩ := grw hΩ i64
  rw [hF.eq]
  have hgq : ∀ s, isG s = (decide (1 ≤ genV s) && decide (s.length = 10)) := fun s => rfl
  obtain ⟨q, hq⟩ : ∃ q, q = ps.map str := ⟨_, rfl⟩
  have hqf : roFree (.sl true 1 q) = true := by rw [hq]; exact roF_S ps
  have hqz : frz (.sl true 1 q) = .sl false 1 q := by rw [frz_sl, hq, frz_S]
  have hql : q.length = ps.length := by rw [hq, List.length_map]
  have hqq := hq
  rw [← hq] at hcp
  unfold Dsk.enc at hcp ⊢
  unfold genH at hcp
  obtain ⟨l, v1, v2, v3, v4⟩ := x
  dsimp only at *
  clear hq
  generalize l.map (Fil.enc false) = xs at *
  generalize genV = V at *
  generalize isG = B at *
  have htab := tab
  have hmo := hmo
  refine PCtr.walk tab hΩ fn_impl_Disk_gens rfl ?_
  generalize PP = P at *
  cbv
  refine call_pf hΩ 4 hcp rfl (fits _) hqf hqz rfl ?_
  cbv
  refine loopX htab hΩ (fun i : Nat => ⟨[(3, .vw 1 0 (Ω.len (F (W i)))), (9, .sl false 1 q), (10, i64 (Ω.int (Ω.len q))), (11, i64 (Ω.int i))], 31, [none, some ⟨1, F (W i), false⟩]⟩) (fun i => i ≤ ps.length) (fun i => ps.length - i) 0 (Nat.zero_le _)
    ?enter (fun i hi => ?_)
  case enter => exact ((Sbs.unlk (r := 0) rfl rfl).trans (Sbs.thaw0 (r := 0) rfl rfl rfl)).trans (Sbs.mk rfl (by dsimp only; rw [hW0, hF.nil]; rfl) ⟨by dsimp only; rw [hW0, hF.z]; rfl, rfl, rfl, zeroI hΩ, trivial⟩)
  have hol := hF.len (W i)
  have hlo := hF.lo (W i)
  have hle := hF.le (W i)
  have htk := hF.tk (W i)
  have hwi := hWl i
  cbv
  refine br (fun h => ?_) (fun h => ?_) <;> cbv
  · replace h := ltI hΩ h
    obtain ⟨s, hs⟩ := at_of (cs := ps) (by omega : i < _)
    have hst := hWs i s hs
    have hap0 := hF.app (W i) (V s)
    have hpl0 := hF.plus (W i) (V s)
    have hsl := hpm s (List.mem_of_getElem? hs)
    have hcn := hnum s hsl.2
    have hsg := hsg s
    have hgs := hgq s
    generalize V s = n at *
    generalize B s = b at *
    refine ⟨⟨nnI hΩ⟩, _, rdI hΩ hqq hs, ?_⟩
    cbv
    refine ⟨⟨by decide, trivial, by subst hΩ; exact hsl.1, by subst hΩ; exact Nat.le_refl _⟩, ?_⟩
    refine call_pure hΩ 3 hcn rfl (by show fitA.fitL 3 [str (Ω.segS (Ω.nat 4) (Ω.lenS s) s), i64 6] _; rw [hsg]; exact fits _) rfl rfl ?_
    cbv
    have hb : decide (1 ≤ n) = true → decide (s.length = 10) = true → b = true := fun h1 h2 => by rw [hgs, h1, h2]; rfl
    have hb0 : decide (1 ≤ n) = false → b = false := fun h1 => by rw [hgs, h1]; rfl
    have hb1 : decide (s.length = 10) = false → b = false := fun h1 => by rw [hgs, h1, Bool.and_false]
    clear hgs
    have keep : b = false → W (i + 1) = W i := fun h => by rw [hst, h]; simp
    have grow : b = true → W (i + 1) = W i ++ [n] := fun h => by rw [hst, h]; simp
    clear hst
    have skip : b = false → i + 1 ≤ ps.length ∧ ps.length - (i + 1) < ps.length - i ∧ W (i + 1) = W i := fun h => ⟨by omega, by omega, keep h⟩
    have i1 : i + 1 ≤ ps.length := by omega
    have i2 : ps.length - (i + 1) < ps.length - i := by omega
    have i3 : i64 (Ω.ar .add .i64 (Ω.int i) 1) = i64 (Ω.int (i + 1)) := incI hΩ (by omega)
    refine br (fun g => ?_) (fun g => ?_) <;> cbv
    · replace g := geI_t hΩ g
      refine br (fun k => ?_) (fun k => ?_) <;> cbv
      · replace k := eqZt hΩ (iteA hΩ k)
        have k : s.length = 10 := by subst hΩ; have k : (s.length : Int) = 10 := k; omega
        have hb := grow (hb (decide_eq_true g) (decide_eq_true k))
        exact ⟨⟨rfl, okAll rfl, by show (Ω.len (F (W i)) + 1) * 8 ≤ 140737488355328; omega, by show Ω.len (F (W i)) + 1 ≤ 9223372036854775807; omega⟩,
          i + 1, i1, i2, (Sbs.cut 2 rfl).trans (Sbs.mk rfl (by show [none, some (Row.mk 1 (Ω.app (Ω.take (Ω.len (F (W i))) (F (W i))) [i64 n]) false)] = _; rw [hap0, hb]) ⟨congrArg (A.vw 1 0) (by rw [hb]; exact hpl0), rfl, rfl, i3, trivial⟩)⟩
      · replace k := eqZf hΩ (iteA hΩ k)
        have k : s.length ≠ 10 := by subst hΩ; have k : ¬ (s.length : Int) = 10 := k; omega
        have hb := keep (hb1 (decide_eq_false k))
        exact ⟨i + 1, i1, i2, (Sbs.cut 2 rfl).trans (Sbs.mk rfl (by rw [hb]; rfl) ⟨by rw [hb]; rfl, rfl, rfl, i3, trivial⟩)⟩
    · replace g := geI_f hΩ g
      have hb := keep (hb0 (decide_eq_false (by omega)))
      exact ⟨i + 1, i1, i2, (Sbs.cut 2 rfl).trans (Sbs.mk rfl (by rw [hb]; rfl) ⟨by rw [hb]; rfl, rfl, rfl, i3, trivial⟩)⟩
  · replace h := geI hΩ h
    obtain rfl : i = ps.length := by omega
    exact ⟨⟨rfl, hle⟩, .of (congrArg (A.sl true 1) htk)⟩
theorem c_l8Gens (x : Dsk) (hl : x.f.length ≤ 1048576) (hp : ∀ f ∈ x.f, f.p.length ≤ 1048576) : PCtr PP n_spec_l8Gens [x.see] (.sl true 1 ((gensF x.f).map i64)) := by
  obtain ⟨Ω, hΩ⟩ : ∃ Ω, Ω = std := ⟨_, rfl⟩
  have hcp := c_l7Paths x genH hl
  have hgl := pathsF_len x.f genH
  have hpm : ∀ s ∈ pathsF x.f genH, 4 ≤ s.length ∧ s.length ≤ 1048576 ∧ isG s = (decide (0 ≤ genV s) && decide (genS (if genV s < 0 then 0 else genV s) = s)) := fun s hs => by
    obtain ⟨h1, f, hf, rfl⟩ := pathsF_mem hs
    refine ⟨?_, hp f hf, isG_eq h1⟩
    rw [beg_split h1, List.length_append]; show 4 ≤ 4 + _; omega
  unfold gensF
  generalize pathsF x.f genH = ps at *
  have hpl : ps.length ≤ 1048576 := by omega
  have hnum : ∀ s : List UInt8, s.length ≤ 1048576 → PCtr PP n_spec_l1Number [str (s.drop 4), i64 6] (.tup [i64 (if genV s < 0 then 0 else genV s), boo (decide (0 ≤ genV s))]) := fun s hs => c_l1NumberM 6 (by decide) (s.drop 4) (by rw [List.length_drop]; omega)
  have hgp := c_GenPathS
  have hsg : ∀ s : List UInt8, Ω.segS (Ω.nat 4) (Ω.lenS s) s = s.drop 4 := fun s => by subst hΩ; show (s.take s.length).drop 4 = _; rw [List.take_length]
  obtain ⟨W, hW⟩ : ∃ W : Nat → List Int, W = fun i => ((ps.take i).filter isG).map genV := ⟨_, rfl⟩
  have hWs : ∀ i s, ps[i]? = some s → W (i + 1) = W i ++ (if isG s then [if genV s < 0 then 0 else genV s] else []) := fun i s h => by
    have h1 := hpm s (List.mem_of_getElem? h)
    rw [hW]; dsimp only; rw [gensF_at h]
    by_cases hb : isG s = true
    · have : 0 ≤ genV s := by rw [h1.2.2] at hb; simp at hb; exact hb.1
      rw [if_pos hb, if_pos hb, if_neg (show ¬ genV s < 0 by omega)]
    · rw [if_neg hb, if_neg hb]
  have hW0 : W 0 = [] := by rw [hW]; rfl
  have hWl : ∀ i, (W i).length ≤ i := fun i => by rw [hW]; dsimp only; rw [List.length_map]; exact Nat.le_trans (List.length_filter_le _ _) (by rw [List.length_take]; omega)
  have hWn : (ps.filter isG).map genV = W ps.length := by rw [hW]; dsimp only; rw [List.take_length]
  rw [hWn]
  clear hW hWn
  obtain ⟨F, hF⟩ := grw hΩ i64
  rw [hF.eq]
  obtain ⟨q, hq⟩ : ∃ q, q = ps.map str := ⟨_, rfl⟩
  have hqf : roFree (.sl true 1 q) = true := by rw [hq]; exact roF_S ps
  have hqz : frz (.sl true 1 q) = .sl false 1 q := by rw [frz_sl, hq, frz_S]
  have hql : q.length = ps.length := by rw [hq, List.length_map]
  have hqq := hq
  rw [← hq] at hcp
  unfold Dsk.see at hcp ⊢
  unfold genH at hcp
  obtain ⟨l, v1, v2, v3, v4⟩ := x
  dsimp only at *
  clear hq
  generalize l.map (Fil.enc false) = xs at *
  obtain ⟨V, hV⟩ : ∃ V : List UInt8 → Int, ∀ s, V s = if genV s < 0 then 0 else genV s := ⟨_, fun _ => rfl⟩
  obtain ⟨D, hD⟩ : ∃ D : List UInt8 → Bool, ∀ s, D s = decide (0 ≤ genV s) := ⟨_, fun _ => rfl⟩
  simp only [← hV, ← hD] at hWs hnum hpm
  clear hV hD
  generalize isG = B at *
  generalize genS = Q at *
  have htab := tab
  have hmo := hmo
  refine PCtr.walk tab hΩ fn_spec_l8Gens rfl ?_
  generalize PP = P at *
  cbv
  refine call_pf hΩ 4 hcp rfl (fits _) hqf hqz rfl ?_
  cbv
  refine loopX htab hΩ (fun i : Nat => ⟨[(0, .rp [.sl false 2 xs, i64 v1, i64 v2, i64 v3, boo v4]), (3, .vw 0 0 (Ω.len (F (W i)))), (4, .sl false 1 q), (5, i64 (Ω.int i))], 41, [some ⟨1, F (W i), false⟩]⟩) (fun i => i ≤ ps.length) (fun i => ps.length - i) 0 (Nat.zero_le _)
    ?enter (fun i hi => ?_)
  case enter => exact Sbs.mk rfl (by dsimp only; rw [hW0, hF.nil]) ⟨rfl, by dsimp only; rw [hW0, hF.z]; rfl, rfl, zeroI hΩ, trivial⟩
  have hol := hF.len (W i)
  have hlo := hF.lo (W i)
  have hle := hF.le (W i)
  have htk := hF.tk (W i)
  have hwi := hWl i
  cbv
  refine br (fun h => ?_) (fun h => ?_) <;> cbv
  · replace h := ltI hΩ h
    obtain ⟨s, hs⟩ := at_of (cs := ps) (by omega : i < _)
    have hst := hWs i s hs
    have hap0 := hF.app (W i) (V s)
    have hpl0 := hF.plus (W i) (V s)
    obtain ⟨hs4, hsl, hgs⟩ := hpm s (List.mem_of_getElem? hs)
    have hcn := hnum s hsl
    have hgp := hgp (V s)
    have hsg := hsg s
    generalize hqs : Q (V s) = z at *
    generalize V s = n at *
    generalize D s = d at *
    generalize B s = b at *
    have i1 : i + 1 ≤ ps.length := by omega
    have i2 : ps.length - (i + 1) < ps.length - i := by omega
    have i3 : i64 (Ω.ar .add .i64 (Ω.int i) 1) = i64 (Ω.int (i + 1)) := incI hΩ (by omega)
    have grow : d = true → z = s → W (i + 1) = W i ++ [n] := fun h1 h2 => by rw [hst, hgs, h1, h2]; simp
    have keep0 : d = false → W (i + 1) = W i := fun h1 => by rw [hst, hgs, h1]; simp
    have keep1 : ¬ z = s → W (i + 1) = W i := fun h1 => by rw [hst, hgs]; simp [h1]
    clear hst hgs
    refine ⟨⟨nnI hΩ⟩, _, rdI hΩ hqq hs, ?_⟩
    cbv
    refine ⟨⟨by decide, trivial, by subst hΩ; exact hs4, by subst hΩ; exact Nat.le_refl _⟩, ?_⟩
    refine call_pure hΩ 3 hcn rfl (by show fitA.fitL 3 [str (Ω.segS (Ω.nat 4) (Ω.lenS s) s), i64 6] _; rw [hsg]; exact fits _) rfl rfl ?_
    cbv
    refine ⟨VC_drawn htab hΩ hmo (by kernel_rfl) ?_⟩
    cbv
    refine br (fun g => ?_) (fun g => ?_) <;> cbv
    · refine QCall_pure (k := 3) hgp rfl (fits _) rfl ?_
      cbv
      refine ⟨⟨nnI hΩ⟩, _, rdI hΩ hqq hs, ?_⟩
      cbv
      refine br (fun k => ?_) (fun k => ?_) <;> cbv
      · have hb := grow g (eqSt hΩ (iteA hΩ k))
        exact ⟨⟨rfl, okAll rfl, by show (Ω.len (F (W i)) + 1) * 8 ≤ 140737488355328; omega, by show Ω.len (F (W i)) + 1 ≤ 9223372036854775807; omega⟩,
          i + 1, i1, i2, (Sbs.cut 1 rfl).trans (Sbs.mk rfl (by show [some (Row.mk 1 (Ω.app (Ω.take (Ω.len (F (W i))) (F (W i))) [i64 n]) false)] = _; rw [hap0, hb]) ⟨rfl, congrArg (A.vw 0 0) (by rw [hb]; exact hpl0), rfl, i3, trivial⟩)⟩
      · have hb := keep1 (eqSf hΩ (iteA hΩ k))
        exact ⟨i + 1, i1, i2, (Sbs.cut 1 rfl).trans (Sbs.mk rfl (by rw [hb]; rfl) ⟨rfl, by rw [hb]; rfl, rfl, i3, trivial⟩)⟩
    · have hb := keep0 g
      exact ⟨i + 1, i1, i2, (Sbs.cut 1 rfl).trans (Sbs.mk rfl (by rw [hb]; rfl) ⟨rfl, by rw [hb]; rfl, rfl, i3, trivial⟩)⟩
  · replace h := geI hΩ h
    obtain rfl : i = ps.length := by omega
    exact ⟨⟨rfl, hle⟩, .of (congrArg (A.sl true 1) htk)⟩
end Go.Proofs.YtidlnilcdmhkiaaGreatDoor

/- Walks: who leans on one. Plain theorems. -/
set_option linter.unusedVariables false
set_option linter.unusedSimpArgs false
namespace Go.Proofs.YtidlnilcdmhkiaaGreatDoor
open Go Go.Fw
set_option maxRecDepth 100000
theorem c_l1Has (l : List Int) (s : Int) (hl : l.length ≤ 4611686018427387904) : PCtr PP n_spec_l1Has [.sl false 1 (l.map i64), i64 s] (boo (l.any (· == s))) := by
  obtain ⟨Ω, hΩ⟩ : ∃ Ω, Ω = std := ⟨_, rfl⟩
  obtain ⟨r, hr⟩ : ∃ r, r = l.any (· == s) := ⟨_, rfl⟩
  rw [← hr]
  obtain ⟨xs, hxs⟩ : ∃ xs, xs = l.map i64 := ⟨_, rfl⟩
  have hlen : xs.length = l.length := by rw [hxs, List.length_map]
  rw [← hxs]
  have htab := tab
  have hmo := hmo
  have hve := verEq
  refine PCtr.walk tab hΩ fn_spec_l1Has rfl ?_
  generalize PP = P at *
  cbv
  refine loopX htab hΩ (fun i : Nat => ⟨[(0, .sl false 1 xs), (1, .sc (.int .i64 s)), (5, .sc (.int .i64 (Ω.int i)))], 18, []⟩) (fun i => i ≤ l.length ∧ r = (l.drop i).any (· == s)) (fun i => l.length - i) 0
    ⟨Nat.zero_le _, hr⟩ (Sbs.mk rfl rfl ⟨rfl, rfl, zeroI hΩ, trivial⟩) ?_
  rintro i ⟨hi, he⟩
  cbv
  refine br (fun h => ?_) (fun h => ?_) <;> cbv
  · replace h := ltI hΩ h
    obtain ⟨c, hcc⟩ := at_of (cs := l) (by omega : i < l.length)
    rw [any_at _ hcc] at he
    refine ⟨⟨nnI hΩ⟩, _, rdI hΩ hxs hcc, ?_⟩
    cbv
    refine br (fun g => ?_) (fun g => ?_) <;> cbv
    · exact .of (congrArg boo (by rw [he, show (c == s) = true by simp [eqI_t hΩ g]]; rfl))
    · rw [show (c == s) = false by simp [eqI_f hΩ g], Bool.false_or] at he
      exact ⟨i + 1, ⟨by omega, he⟩, by omega, Sbs.mk rfl rfl ⟨rfl, rfl, incI hΩ (by omega), trivial⟩⟩
  · replace h := geI hΩ h
    exact .of (congrArg boo (by rw [he, List.drop_of_length_le (by omega)]; rfl))
theorem c_IndexI (l : List Int) (s : Int) (hl : l.length ≤ 4611686018427387904) : PCtr PP n_slices_Index_L_int64_int64 [.sl false 1 (l.map i64), i64 s] (i64 (idx (fun c => s == c) l)) := by
  obtain ⟨Ω, hΩ⟩ : ∃ Ω, Ω = std := ⟨_, rfl⟩
  obtain ⟨r, hr⟩ : ∃ r, r = idx (fun c => s == c) l := ⟨_, rfl⟩
  rw [← hr]
  obtain ⟨xs, hxs⟩ : ∃ xs, xs = l.map i64 := ⟨_, rfl⟩
  have hlen : xs.length = l.length := by rw [hxs, List.length_map]
  rw [← hxs]
  have htab := tab
  have hmo := hmo
  have hve := verEq
  refine PCtr.walk tab hΩ fn_slices_Index_L_int64_int64 rfl ?_
  generalize PP = P at *
  cbv
  refine loopX htab hΩ (fun i : Nat => ⟨[(0, .sl false 1 xs), (1, .sc (.int .i64 s)), (7, .sc (.int .i64 (Ω.int (Ω.len xs)))), (8, .sc (.int .i64 (Ω.int i)))], 19, []⟩) (fun i => i ≤ l.length ∧ r = idxFrom (fun c => s == c) i (l.drop i)) (fun i => l.length - i) 0
    ⟨Nat.zero_le _, hr⟩ (Sbs.mk rfl rfl ⟨rfl, rfl, rfl, zeroI hΩ, trivial⟩) ?_
  rintro i ⟨hi, he⟩
  cbv
  refine br (fun h => ?_) (fun h => ?_) <;> cbv
  · replace h := ltI hΩ h
    obtain ⟨c, hcc⟩ := at_of (cs := l) (by omega : i < l.length)
    rw [idxFrom_at _ hcc] at he
    refine ⟨⟨nnI hΩ⟩, _, rdI hΩ hxs hcc, ?_⟩
    cbv
    refine br (fun g => ?_) (fun g => ?_) <;> cbv
    · exact .of (congrArg i64 (by rw [he, if_pos (by have := eqI_t hΩ g; simp [this])]; subst hΩ; rfl))
    · rw [if_neg (by have := eqI_f hΩ g; simp; omega)] at he
      exact ⟨i + 1, ⟨by omega, he⟩, by omega, Sbs.mk rfl rfl ⟨rfl, rfl, rfl, incI hΩ (by omega), trivial⟩⟩
  · replace h := geI hΩ h
    exact .of (congrArg i64 (by rw [he, List.drop_of_length_le (by omega)]; rfl))
theorem c_ContainsI (l : List Int) (s : Int) (hl : l.length ≤ 4611686018427387904) : PCtr PP n_slices_Contains_L_int64_int64 [.sl false 1 (l.map i64), i64 s] (boo (l.any (· == s))) := by
  obtain ⟨Ω, hΩ⟩ : ∃ Ω, Ω = std := ⟨_, rfl⟩
  obtain ⟨r, hr⟩ : ∃ r, r = l.any (· == s) := ⟨_, rfl⟩
  rw [← hr]
  have hc0 := c_IndexI l s hl
  rw [show (l.any (· == s)) = l.any (fun c => s == c) by congr 1; funext c; rw [Bool.eq_iff_iff, beq_iff_eq, beq_iff_eq]; exact eq_comm, ← idx_any] at hr
  generalize idx (fun c => s == c) l = k at *
  generalize l.map i64 = xs at *
  have htab := tab
  have hmo := hmo
  refine PCtr.walk tab hΩ fn_slices_Contains_L_int64_int64 rfl ?_
  generalize PP = P at *
  cbv
  repeat' (first | (refine br (fun h => ?_) (fun h => ?_) <;> cbv) | (refine ⟨VC_drawn htab hΩ hmo (by kernel_rfl) ?_⟩; cbv) | (refine QCall_pure (k := 3) (hc0) rfl (fits _) rfl ?_; cbv) | (refine call_pure hΩ 3 (hc0) rfl (fits _) rfl rfl ?_; cbv))
  all_goals (refine .of (congrArg boo ?_); subst hΩ; subst hr; rfl)
end Go.Proofs.YtidlnilcdmhkiaaGreatDoor

/- Walks: a disk's present number. Plain theorems. -/
set_option linter.unusedVariables false
set_option linter.unusedSimpArgs false
namespace Go.Proofs.YtidlnilcdmhkiaaGreatDoor
open Go Go.Fw
set_option maxRecDepth 100000
/-- A disk whose parts may be counted. -/
structure Dsk.Fit (x : Dsk) : Prop where
  n : x.f.length ≤ 1048576
  p : ∀ f ∈ x.f, f.p.length ≤ 1048576
  d : ∀ f ∈ x.f, f.d.length ≤ 1048576
  t : totL x.f ≤ 1099511627776
/-- A sound disk. -/
structure Dsk.Ok (x : Dsk) : Prop extends x.Fit where
  o : ordF x.f
  pf : ∀ f ∈ x.f, pathF f.p = 0
  d4 : ∀ f ∈ x.f, f.d.length ≤ 4000
  n120 : x.f.length ≤ 120
  bg : inB x.bg 0 20000 = true
  wr : inB x.wr 0 1000000000 = true
  st : inB x.st (-1) 1000000000 = true
  tt : (totL x.f : Int) ≤ x.bg
theorem Dsk.Fit.ok {x : Dsk} (h : x.Fit) (hf : dskF x = 0) : x.Ok := by
  unfold dskF at hf
  split at hf
  · cases hf
  · rename_i h1
    split at hf
    · cases hf
    · rename_i h2
      split at hf
      · rename_i h3; exact absurd hf h3
      · rename_i h3
        split at hf
        · cases hf
        · rename_i h4
          obtain ⟨h5, -, h6⟩ := filsF_ord (by simpa using h3)
          simp at h1
          exact ⟨h, h5, fun f hf => (h6 f hf).1, fun f hf => (h6 f hf).2, by omega, h1.1, h1.2.1, h1.2.2, by omega⟩
theorem datF_len {l : List Fil} {n : Nat} (h : ∀ f ∈ l, f.d.length ≤ n) (p : List UInt8) : (datF l p).length ≤ n := by
  unfold datF
  split
  · split
    · rename_i f hf; exact h f (List.mem_of_getElem? hf)
    · exact Nat.zero_le _
  · exact Nat.zero_le _
theorem gensF_len (l : List Fil) : (gensF l).length ≤ l.length := by
  unfold gensF
  rw [List.length_map]
  exact Nat.le_trans (List.length_filter_le _ _) (pathsF_len _ _)
theorem gensF_ge {l : List Fil} {n : Int} (h : n ∈ gensF l) : 1 ≤ n ∧ n ≤ 999999 := by
  unfold gensF at h
  obtain ⟨s, hs, rfl⟩ := List.mem_map.1 h
  obtain ⟨hs, hg⟩ := List.mem_filter.1 hs
  have hb := (pathsF_mem hs).1
  have h1 := isG_eq hb
  rw [hg] at h1
  have h1 := h1.symm
  simp only [Bool.and_eq_true, decide_eq_true_eq] at h1
  rw [if_neg (by omega)] at h1
  have h2 := h1.2
  unfold genS at h2
  split at h2
  · rename_i hin
    unfold inB at hin
    simp at hin
    exact hin
  · have := beg_split hb
    rw [← h2] at this
    simp [genH] at this
end Go.Proofs.YtidlnilcdmhkiaaGreatDoor

/- Walks: sizes of disks. Plain theorems. -/
set_option linter.unusedVariables false
set_option linter.unusedSimpArgs false
namespace Go.Proofs.YtidlnilcdmhkiaaGreatDoor
open Go Go.Fw
set_option maxRecDepth 100000
def szF (f : Fil) (l : Int) : Int := if szN f.p.length l < 0 then -1 else if szN f.d.length (szN f.p.length l) < 0 then -1 else szN f.d.length (szN f.p.length l)
def cF (f : Fil) : Nat := f.p.length + f.d.length
theorem szF_cost : Costs szF cF := fun o l => by
  unfold szF cF szN
  generalize o.p.length = a
  generalize o.d.length = b
  repeat' split
  all_goals omega
/-- What can stand in memory. -/
structure Fil.Fit (f : Fil) : Prop where
  p : f.p.length ≤ maxLen
  d : f.d.length ≤ maxLen
theorem c_szByteS (d : List UInt8) (l : Int) (h0 : 0 ≤ l) (h1 : l ≤ 1048576) (hm : d.length ≤ maxLen) : PCtr PP n_laws_szByteS [.sl false 1 (d.map byteA), i64 l] (i64 (szN d.length l)) := by
  obtain ⟨Ω, hΩ⟩ : ∃ Ω, Ω = std := ⟨_, rfl⟩
  obtain ⟨r, hr⟩ : ∃ r, r = szN d.length l := ⟨_, rfl⟩
  rw [← hr]
  unfold szN at hr
  have hw := szN_w h0 h1 hm
  obtain ⟨xs, hxs⟩ : ∃ xs, xs = d.map byteA := ⟨_, rfl⟩
  have hlen : xs.length = d.length := by rw [hxs, List.length_map]
  rw [← hxs]
  have hs : Ω.ar .sub .i64 l (Ω.int (Ω.len xs)) = l - d.length := by subst hΩ; rw [← hw]; show IntKind.i64.wrap (l - (xs.length : Int)) = _; rw [hlen]
  generalize (l - d.length : Int) = m at *
  have htab := tab
  refine PCtr.walk tab hΩ fn_laws_szByteS rfl ?_
  generalize PP = P at *
  cbv
  refine br (fun h => ?_) (fun h => ?_) <;> cbv
  · have h := ltI_t hΩ h
    have h : m < 0 := by rw [← hs]; exact h
    exact .of (congrArg i64 (by rw [hr, if_pos h]))
  · have h := ltI_f hΩ h
    have h : 0 ≤ m := by rw [← hs]; exact h
    exact .of (congrArg i64 (by rw [hr, if_neg (by omega)]; exact hs))
theorem c_szFile (o : Fil) (l : Int) (h0 : 0 ≤ l) (h1 : l ≤ 1048576) (hm : o.Fit) : PCtr PP n_laws_szFile [o.enc false, i64 l] (i64 (szF o l)) := by
  obtain ⟨Ω, hΩ⟩ : ∃ Ω, Ω = std := ⟨_, rfl⟩
  obtain ⟨r, hr⟩ : ∃ r, r = szF o l := ⟨_, rfl⟩
  rw [← hr]
  have hw := szN_w h0 h1 hm.p
  have k1 : ∀ l, 0 ≤ l → l ≤ 1048576 → PCtr PP n_laws_szByteS [.sl false 1 (o.d.map byteA), i64 l] (i64 (szN o.d.length l)) := fun l a b => c_szByteS o.d l a b hm.d
  unfold szF at hr
  unfold Fil.enc
  generalize o.d.map byteA = ds at *
  obtain ⟨nc, hnc⟩ : ∃ nc : Int, (o.p.length : Int) = nc := ⟨_, rfl⟩
  have hn0 : 0 ≤ nc := by omega
  rw [show szN o.p.length l = if l - o.p.length < 0 then -1 else l - o.p.length from rfl, hnc] at hr
  have hst : Ω.ar .sub .i64 l (Ω.int (Ω.lenS o.p)) = IntKind.i64.wrap (l - nc) := by subst hΩ; rw [← hnc]; rfl
  rw [hnc] at hw
  rw [hw] at hst
  generalize szN o.d.length = f1 at *
  have htab := tab
  refine PCtr.walk tab hΩ fn_laws_szFile rfl ?_
  generalize PP = P at *
  cbv
  refine br (fun h => ?_) (fun h => ?_) <;> cbv
  · refine .of (congrArg i64 ?_)
    have h : l - nc < 0 := by rw [← hst]; exact ltI_t hΩ h
    rw [hr, if_pos h]; rfl
  obtain ⟨l1, hl1, q0, q1, hr⟩ : ∃ l1, Ω.ar .sub .i64 l (Ω.int (Ω.lenS o.p)) = l1 ∧ 0 ≤ l1 ∧ l1 ≤ 1048576 ∧ r = if f1 l1 < 0 then -1 else f1 l1 := by
    have h : 0 ≤ l - nc := by rw [← hst]; exact ltI_f hΩ h
    have e : (if l - nc < 0 then -1 else l - nc) = l - nc := if_neg (by omega)
    refine ⟨l - nc, hst, h, by omega, ?_⟩
    rw [hr]
    simp only [e]
    rw [if_neg (by omega)]
  have k1' : PCtr P n_laws_szByteS [.sl false 1 ds, i64 (Ω.ar .sub .i64 l (Ω.int (Ω.lenS o.p)))] (i64 (f1 l1)) := by rw [hl1]; exact k1 l1 q0 q1
  generalize f1 l1 = a1 at *
  refine call_pure hΩ 3 k1' rfl (fits _) rfl rfl ?_
  cbv
  refine br (fun h => ?_) (fun h => ?_) <;> cbv
  · exact .of (congrArg i64 (by rw [hr, if_pos (ltI_t hΩ h)]))
  have h := ltI_f hΩ h
  rw [if_neg (by omega)] at hr
  exact .of (congrArg i64 hr.symm)
theorem c_szFileS (cs : List (Fil)) (l : Int) (h0 : 0 ≤ l) (h1 : l ≤ 1048576) (hm : cs.length ≤ maxLen) (hc : ∀ c ∈ cs, c.Fit) : PCtr PP n_laws_szFileS [.sl false 2 (cs.map (Fil.enc false)), i64 l] (i64 (szS szF cs l)) := by
  obtain ⟨Ω, hΩ⟩ : ∃ Ω, Ω = std := ⟨_, rfl⟩
  obtain ⟨r, hr⟩ : ∃ r, r = szS szF cs l := ⟨_, rfl⟩
  obtain ⟨xs, hxs⟩ : ∃ xs, xs = cs.map (Fil.enc false) := ⟨_, rfl⟩
  have hlen : xs.length = cs.length := by rw [hxs, List.length_map]
  rw [← hxs, ← hr]
  have hel : ∀ c ∈ cs, ∀ y, 0 ≤ y → y ≤ 1048576 → PCtr PP n_laws_szFile [Fil.enc false c, i64 y] (i64 (szF c y)) := fun c h y a b => c_szFile c y a b (hc c h)
  have hle : ∀ c y, 0 ≤ szF c y → szF c y ≤ y := fun c y h => by
    have h2 := szF_cost c y
    rw [h2] at h ⊢
    split at h
    · omega
    · rename_i h3; rw [if_neg h3]; omega
  have htab := tab
  refine PCtr.walk tab hΩ fn_laws_szFileS rfl ?_
  generalize PP = P at *
  cbv
  refine br (fun h => ?_) (fun h => ?_)
  · replace h : r = -1 := by
      subst hΩ
      have h : IntKind.i64.wrap (l - xs.length) < 0 := lt_t h
      rw [hlen, szw h0 h1 hm] at h
      rw [hr, szS, if_pos h]
    cbv
    exact .of (congrArg i64 h.symm)
  obtain ⟨l', hl', h, hr⟩ : ∃ l', IntKind.i64.wrap (l - xs.length) = l' ∧ (0 ≤ l' ∧ l' ≤ 1048576) ∧ r = szLoop szF cs l' := by
    subst hΩ
    have h : 0 ≤ IntKind.i64.wrap (l - xs.length) := lt_f h
    rw [hlen, szw h0 h1 hm] at h ⊢
    exact ⟨_, rfl, ⟨h, by omega⟩, by rw [hr, szS, if_neg (by omega)]⟩
  cbv
  refine loopX htab hΩ (fun i : Nat × Int => ⟨[(0, .sl false 2 xs), (1, .sc (.int .i64 i.2)), (5, .sc (.int .i64 (Ω.int i.1)))], 27, []⟩) (fun i => i.1 ≤ cs.length ∧ (0 ≤ i.2 ∧ i.2 ≤ 1048576) ∧ r = szLoop szF (cs.drop i.1) i.2)
    (fun i => cs.length - i.1) (0, l') ⟨Nat.zero_le _, h, hr⟩ (Sbs.mk rfl rfl ⟨rfl, by subst hΩ; exact congrArg i64 hl', zeroI hΩ, trivial⟩) ?_
  rintro ⟨i, y⟩ ⟨hi, hy, he⟩
  dsimp only at hi hy he
  cbv
  refine br (fun h => ?_) (fun h => ?_)
  · replace h := ltI hΩ h
    obtain ⟨c, hcc⟩ := at_of (cs := cs) (by omega : i < cs.length)
    have hcm := List.mem_of_getElem? hcc
    rw [szLoop_at _ hcc] at he
    cbv
    have hcc' := hel c hcm y hy.1 hy.2
    obtain ⟨ds, hen⟩ : ∃ ds, Fil.enc false c = .agg [str c.p, .sl false 1 ds] := ⟨_, rfl⟩
    rw [hen] at hcc'
    refine ⟨⟨nnI hΩ⟩, _, (rdI hΩ hxs hcc).trans (congrArg some hen), ?_⟩
    cbv
    have hley := hle c y
    generalize szF c y = y' at he hcc' hley
    refine call_pure hΩ 3 hcc' rfl (fits _) rfl rfl ?_
    cbv
    refine br (fun h => ?_) (fun h => ?_) <;> cbv
    · exact .of (congrArg i64 (by rw [he, if_pos (ltI_t hΩ h)]))
    · have h := ltI_f hΩ h
      exact ⟨(i + 1, y'), ⟨by dsimp only; omega, ⟨h, by have := hley h; dsimp only; omega⟩, by rw [he, if_neg (by omega)]⟩, by dsimp only; omega, Sbs.mk rfl rfl ⟨rfl, rfl, incI hΩ (by simp only [maxLen] at hm; omega), trivial⟩⟩
  · replace h := geI hΩ h
    cbv
    exact .of (congrArg i64 (by rw [he, List.drop_of_length_le (by omega)]; rfl))
def szD (x : Dsk) (l : Int) : Int := szS szF x.f l
theorem c_szDisk (x : Dsk) (l : Int) (h0 : 0 ≤ l) (h1 : l ≤ 1048576) (hm : x.f.length ≤ maxLen) (hc : ∀ f ∈ x.f, f.Fit) : PCtr PP n_laws_szDisk [x.enc false false, i64 l] (i64 (szD x l)) := by
  obtain ⟨Ω, hΩ⟩ : ∃ Ω, Ω = std := ⟨_, rfl⟩
  have hs := c_szFileS x.f l h0 h1 hm hc
  unfold szD
  have hneg : szS szF x.f l < 0 → szS szF x.f l = -1 := fun h => by
    rw [szS_cost szF_cost] at h ⊢
    split at h
    · rename_i h2; rw [if_pos h2]
    · omega
  unfold Dsk.enc
  generalize szS szF x.f l = r at *
  generalize x.f.map (Fil.enc false) = xs at *
  have htab := tab
  refine PCtr.walk tab hΩ fn_laws_szDisk rfl ?_
  generalize PP = P at *
  cbv
  refine call_pure hΩ 3 hs rfl (fits _) rfl rfl ?_
  cbv
  refine br (fun h => ?_) (fun h => ?_) <;> cbv
  · exact .of (congrArg i64 (hneg (ltI_t hΩ h)).symm)
  · exact .same
def cD (x : Dsk) : Nat := costS cF x.f
theorem szD_cost : Costs szD cD := fun x l => szS_cost szF_cost x.f l
theorem Dsk.fit_of {x : Dsk} (h : cD x ≤ 1048576) : x.Fit := by
  have h1 := len_cost cF x.f
  have h2 := mem_cost cF x.f
  unfold cD at h
  refine ⟨by omega, fun f hf => ?_, fun f hf => ?_, ?_⟩
  · have := h2 f hf; have e : cF f = f.p.length + f.d.length := rfl; omega
  · have := h2 f hf; have e : cF f = f.p.length + f.d.length := rfl; omega
  · have : totL x.f ≤ costS cF x.f := by
      unfold costS totL
      have : ∀ l : List Fil, (l.map fun f => f.d.length).sum ≤ (l.map cF).sum := fun l => by
        induction l with
        | nil => simp
        | cons f l ih => simp only [List.map_cons, List.sum_cons, cF] at *; omega
      have := this x.f
      omega
    omega
end Go.Proofs.YtidlnilcdmhkiaaGreatDoor

/- Walks: copies of disks. Plain theorems. -/
set_option linter.unusedVariables false
set_option linter.unusedSimpArgs false
namespace Go.Proofs.YtidlnilcdmhkiaaGreatDoor
open Go Go.Fw
set_option maxRecDepth 100000
theorem c_toByteS (cs : List (UInt8)) (hb : cs.length ≤ 1048576) : PCtr PP n_laws_toByteS [.sl false 1 (cs.map (byteA))] (.sl true 1 (cs.map (byteA))) := by
  obtain ⟨Ω, hΩ⟩ : ∃ Ω, Ω = std := ⟨_, rfl⟩
  obtain ⟨xs, hxs⟩ : ∃ xs, xs = cs.map (byteA) := ⟨_, rfl⟩
  obtain ⟨zs, hzs⟩ : ∃ zs, zs = cs.map (byteA) := ⟨_, rfl⟩
  obtain ⟨n, hn⟩ : ∃ n, n = cs.length := ⟨_, rfl⟩
  have hlen : xs.length = n := by rw [hxs, hn, List.length_map]
  obtain ⟨ys, hys⟩ : ∃ ys : Nat → List A, ys = fill (byteA) (.sc (.int .u8 0)) cs := ⟨_, rfl⟩
  have hyl : ∀ i, i ≤ n → (ys i).length = n := fun i hi => by rw [hys, hn]; exact fill_length (by omega)
  have hya : ∀ i, ∀ z ∈ ys i, vStore.isAggA z = false := fun i => by rw [hys]; exact fill_all (fun _ => rfl) rfl
  have hy0 : List.replicate n (.sc (.int .u8 0)) = ys 0 := by rw [hys, fill_zero, hn]
  have hyn : ys n = zs := by rw [hys, hn, fill_full, hzs]
  have hyset : ∀ i c, cs[i]? = some c → (ys i).set i ((byteA) c) = ys (i + 1) := fun i c h => by rw [hys]; exact fill_set h
  clear hys
  rw [← hxs]
  rw [show A.sl true 1 xs = .sl true 1 zs by rw [hzs, hxs]]
  refine PCtr.walk tab hΩ fn_laws_toByteS rfl ?_
  have htab := tab
  have hmo := hmo
  generalize PP = P at *
  cbv
  refine ⟨⟨by subst hΩ; show _ ∧ (0 : Int) ≤ xs.length ∧ 1 * ((xs.length : Int).toNat) ≤ _ ∧ (xs.length : Int).toNat ≤ 9223372036854775807; rw [hlen]; refine ⟨rfl, ?_, ?_, ?_⟩ <;> omega⟩,
    loopX htab hΩ (fun i : Nat => ⟨[(0, .sl false 1 xs), (3, .vw 0 0 n), (4, .sc (.int .i64 (Ω.int i)))], 22, [some ⟨1, ys i, false⟩]⟩) (fun i => i ≤ n) (fun i => n - i) 0 (Nat.zero_le _) (Sbs.mk rfl ?_ ?_) (fun i hi => ?_)⟩
  · rw [← hy0]; subst hΩ; subst hlen; rfl
  · subst hΩ; subst hlen; exact ⟨rfl, rfl, rfl, trivial⟩
  have hyli := hyl i hi
  have hyai := hya i
  cbv
  refine br (fun h => ?_) (fun h => ?_)
  · replace h : i < n := by have := ltI hΩ h; omega
    obtain ⟨c, hcc⟩ := at_of (cs := cs) (by omega : i < cs.length)
    have hset := hyset i c hcc
    cbv
    refine ⟨⟨nnI hΩ⟩, _, rdI hΩ hxs hcc, ?_⟩
    cbv
    refine ⟨⟨ixI hΩ h⟩, ⟨by subst hΩ; show 0 + i < _; rw [hyli]; omega, hyai⟩, i + 1, by omega, by omega, Sbs.mk rfl (by rw [← hset]; subst hΩ; show [some (Row.mk 1 ((ys i).set (0 + i) _) false)] = _; rw [Nat.zero_add]; rfl) ⟨rfl, rfl, incI hΩ (by omega), trivial⟩⟩
  · replace h : i = n := by have := geI hΩ h; omega
    subst h
    cbv
    refine ⟨⟨rfl, by show i ≤ (ys i).length; omega⟩, .of ?_⟩
    rw [← hyn]
    subst hΩ
    show A.sl true 1 ((ys i).take i) = _
    rw [List.take_of_length_le (by omega)]
theorem roF_B (l : List UInt8) : roFree (.sl true 1 (l.map byteA)) = true := roFAll fun x hx => by obtain ⟨c, _, rfl⟩ := List.mem_map.1 hx; rfl
theorem roFF (o : Fil) : roFree (o.enc true) = true := by
  show roFree (.agg _) = true
  rw [roFree_agg]
  have h1 := roF_B o.d
  simp only [List.all_cons, List.all_nil, h1]
  rfl
theorem roFFs (l : List Fil) : roFree (.sl true 2 (l.map (Fil.enc true))) = true := roFAll fun x hx => by obtain ⟨c, _, rfl⟩ := List.mem_map.1 hx; exact roFF c
theorem roFD (x : Dsk) : roFree (x.enc true true) = true := by
  show roFree (.agg _) = true
  rw [roFree_agg]
  have h1 := roFFs x.f
  simp only [List.all_cons, List.all_nil, h1]
  rfl
theorem c_toFile (o : Fil) (hs : o.d.length ≤ 1048576) : PCtr PP n_laws_toFile [o.enc false] (o.enc true) := by
  obtain ⟨Ω, hΩ⟩ : ∃ Ω, Ω = std := ⟨_, rfl⟩
  have h1 := c_toByteS o.d hs
  have r1 := roF_B o.d
  unfold Fil.enc
  generalize o.d.map byteA = ds at *
  refine PCtr.walk tab hΩ fn_laws_toFile rfl ?_
  have htab := tab
  have hmo := hmo
  generalize PP = P at *
  cbv
  refine call_pure hΩ 3 h1 rfl (fits _) r1 rfl ?_
  cbv
  refine ⟨⟨rfl, by subst hΩ; exact Nat.le_refl _⟩, .of ?_⟩
  subst hΩ
  show A.agg [str o.p, A.sl true 1 (ds.take ds.length)] = _
  rw [List.take_length]; rfl
theorem c_toFileS (cs : List (Fil)) (hb : cs.length ≤ 1048576) (hl : ∀ f ∈ cs, f.d.length ≤ 1048576) : PCtr PP n_laws_toFileS [.sl false 2 (cs.map (Fil.enc false))] (.sl true 2 (cs.map (Fil.enc true))) := by
  obtain ⟨Ω, hΩ⟩ : ∃ Ω, Ω = std := ⟨_, rfl⟩
  obtain ⟨xs, hxs⟩ : ∃ xs, xs = cs.map (Fil.enc false) := ⟨_, rfl⟩
  obtain ⟨zs, hzs⟩ : ∃ zs, zs = cs.map (Fil.enc true) := ⟨_, rfl⟩
  obtain ⟨n, hn⟩ : ∃ n, n = cs.length := ⟨_, rfl⟩
  have hlen : xs.length = n := by rw [hxs, hn, List.length_map]
  obtain ⟨ys, hys⟩ : ∃ ys : Nat → List A, ys = fill (Fil.enc true) (.agg [str [], .nil]) cs := ⟨_, rfl⟩
  have hyl : ∀ i, i ≤ n → (ys i).length = n := fun i hi => by rw [hys, hn]; exact fill_length (by omega)
  have hya : ∀ i, ∀ z ∈ ys i, isAggN 2 z = true := fun i => by rw [hys]; exact fill_all (fun _ => rfl) rfl
  have hy0 : List.replicate n (.agg [str [], .nil]) = ys 0 := by rw [hys, fill_zero, hn]
  have hyn : ys n = zs := by rw [hys, hn, fill_full, hzs]
  have hyset : ∀ i c, cs[i]? = some c → (ys i).set i ((Fil.enc true) c) = ys (i + 1) := fun i c h => by rw [hys]; exact fill_set h
  clear hys
  rw [← hxs, ← hzs]
  have hcl : ∀ c ∈ cs, PCtr PP n_laws_toFile [Fil.enc false c] (Fil.enc true c) := fun c h => c_toFile c (hl c h)
  refine PCtr.walk tab hΩ fn_laws_toFileS rfl ?_
  have htab := tab
  have hmo := hmo
  generalize PP = P at *
  cbv
  refine ⟨⟨by subst hΩ; show _ ∧ (0 : Int) ≤ xs.length ∧ 40 * ((xs.length : Int).toNat) ≤ _ ∧ (xs.length : Int).toNat ≤ 9223372036854775807; rw [hlen]; refine ⟨rfl, ?_, ?_, ?_⟩ <;> omega⟩,
    loopX htab hΩ (fun i : Nat => ⟨[(0, .sl false 2 xs), (3, .vw 0 0 n), (4, .sc (.int .i64 (Ω.int i)))], 23, [some ⟨2, ys i, false⟩]⟩) (fun i => i ≤ n) (fun i => n - i) 0 (Nat.zero_le _) (Sbs.mk rfl ?_ ?_) (fun i hi => ?_)⟩
  · rw [← hy0]; subst hΩ; subst hlen; rfl
  · subst hΩ; subst hlen; exact ⟨rfl, rfl, rfl, trivial⟩
  have hyli := hyl i hi
  have hyai := hya i
  cbv
  refine br (fun h => ?_) (fun h => ?_)
  · replace h : i < n := by have := ltI hΩ h; omega
    obtain ⟨c, hcc⟩ := at_of (cs := cs) (by omega : i < cs.length)
    have hset := hyset i c hcc
    cbv
    obtain ⟨ds, hen, hen2⟩ : ∃ ds, Fil.enc false c = .agg [str c.p, .sl false 1 ds] ∧ Fil.enc true c = .agg [str c.p, .sl true 1 ds] := ⟨_, rfl, rfl⟩
    have hcc' := hcl c (List.mem_of_getElem? hcc)
    have hrf := roFF c
    rw [hen2] at hrf hset
    rw [hen, hen2] at hcc'
    refine ⟨⟨nnI hΩ⟩, _, (rdI hΩ hxs hcc).trans (congrArg some hen), ?_⟩
    cbv
    refine call_pure hΩ 3 hcc' rfl (fits _) hrf rfl ?_
    cbv
    refine ⟨⟨ixI hΩ h⟩, ⟨rfl, by subst hΩ; exact Nat.le_refl _⟩, ⟨by subst hΩ; show 0 + i < _; rw [hyli]; omega, hyai⟩, i + 1, by omega, by omega,
      Sbs.trans (Sbs.lastN (rows := [_]) rfl) (Sbs.mk rfl ?_ ⟨rfl, rfl, incI hΩ (by omega), trivial⟩)⟩
    rw [← hset]
    subst hΩ
    show [some (Row.mk 2 ((ys i).set (0 + i) (A.agg [str c.p, A.sl true 1 (ds.take ds.length)])) false)] = _
    rw [List.take_length, Nat.zero_add]
  · replace h : i = n := by have := geI hΩ h; omega
    subst h
    cbv
    refine ⟨⟨rfl, by show i ≤ (ys i).length; omega⟩, .of ?_⟩
    rw [← hyn]
    subst hΩ
    show A.sl true 2 ((ys i).take i) = _
    rw [List.take_of_length_le (by omega)]
theorem c_toDisk (x : Dsk) (hx : x.Fit) : PCtr PP n_laws_toDisk [x.enc false false] (x.enc true true) := by
  obtain ⟨Ω, hΩ⟩ : ∃ Ω, Ω = std := ⟨_, rfl⟩
  have h1 := c_toFileS x.f hx.n hx.d
  have r1 := roFFs x.f
  unfold Dsk.enc
  generalize x.f.map (Fil.enc false) = xs at *
  generalize x.f.map (Fil.enc true) = ys at *
  refine PCtr.walk tab hΩ fn_laws_toDisk rfl ?_
  have htab := tab
  have hmo := hmo
  generalize PP = P at *
  cbv
  refine call_pure hΩ 3 h1 rfl (fits _) r1 rfl ?_
  cbv
  refine ⟨⟨rfl, by subst hΩ; exact Nat.le_refl _⟩, .of ?_⟩
  subst hΩ
  show A.agg [A.sl true 2 (ys.take ys.length), i64 x.bg, i64 x.wr, i64 x.st, boo x.dn] = _
  rw [List.take_length]; rfl
end Go.Proofs.YtidlnilcdmhkiaaGreatDoor

/- Regions that draw their order, taken by a plan, rows or none: operations that only read what may be read by all, calls, orders, guards. Plain theorems, no condition. -/
set_option linter.unusedVariables false
set_option linter.unusedSimpArgs false
namespace Go.Fw
section
variable {P : Program} {T : Nat → Option TI} {S : State} {Ω : Opq}
theorem VOR_extract {o : Oper} {rs : List Nat} {x : Operand} {i : Nat} {xs : List A} {z : A} (ho : o.op = .extract x i) (hx : okO x = true) (he : ev S x = .tup xs) (hz : xs[i]? = some z) : VOR P o S rs z := by
  refine fun E G gs a w hi => ?_
  have h1 := ev_rel hi x hx
  rw [he] at h1
  obtain ⟨cs, hv, hr⟩ := tup_inv h1
  obtain ⟨v, hv1, hv2⟩ := hr.get i z hz
  have hv1' : cs[i]? = some v := by simpa using hv1
  exact ⟨v, fun w' hw' => by simp [execOp, ho, hv, Instr.extract, hv1'], hv2⟩
theorem vExtractR_ok {o : Oper} {rs : List Nat} {k : A → Prop} {x : Operand} {i : Nat} (ho : o.op = .extract x i) (h : vExtract (ev S x) i k) : ∃ z, VOR P o S rs z ∧ k z := by
  have hk : okO x = true := by cases x <;> rfl
  unfold vExtract at h
  split at h <;> try exact h.elim
  rename_i xs he
  split at h <;> try exact h.elim
  rename_i z hz
  exact ⟨z, VOR_extract ho hk he hz, h⟩
def vEOp (Ω : Opq) (T : Nat → Option TI) (o : Oper) (S : State) (k : A → Prop) : Prop :=
  match o.op with
  | .extract x i => vExtract (ev S x) i k
  | _ => vROp Ω T [] o S k
theorem vEOp_ok (hT : TabOK P T) {o : Oper} {k : A → Prop} (h : vEOp std T o S k) : ∃ z, VOR P o S [] z ∧ k z := by
  unfold vEOp at h
  split at h
  · rename_i ho; exact vExtractR_ok ho h
  · exact vROp_ok hT h
def vPl (Ω : Opq) (P : Program) (T : Nat → Option TI) (ops : List Oper) : Pln → Option Nat → State → (State → Prop) → Prop
  | .fin, _, S, K => K S
  | .q n p, mv, S, K => (match ops[n]? with
    | some o => vGd ops o S (fun S => vEOp Ω T o S fun z => vPl Ω P T ops p mv (S.put o.dst z) K) (fun S => vPl Ω P T ops p mv (S.put o.dst (.tup [])) K)
    | none => False)
  | .s n p, mv, S, K => (match ops[n]? with
    | some o => vGd ops o S (fun S => vOp Ω P T mv o S fun S' => vPl Ω P T ops p (madeBy o) S' K) (fun S => vPl Ω P T ops p none (S.put o.dst (.tup [])) K)
    | none => False)
  | .two n p m r, mv, S, K => (match ops[n]?, ops[m]? with
    | some o, some o' => vGd ops o S (fun S => vOp Ω P T mv o S fun S' => vPl Ω P T ops p (madeBy o) S' K) (fun S => vPl Ω P T ops p none (S.put o.dst (.tup [])) K) ∧
        vGd ops o' S (fun S => vOp Ω P T mv o' S fun S' => vPl Ω P T ops r (madeBy o') S' K) (fun S => vPl Ω P T ops r none (S.put o'.dst (.tup [])) K)
    | _, _ => False)
theorem pl_ok (hT : TabOK P T) {ops : List Oper} {E0 : Env P} (hsel : Region.noSelect ops.toArray = true) {K : State → Prop} : ∀ (p : Pln) (l : Array Bool) (mv : Option Nat) (S : State) (a : Act) (w : World) (E : Env P) (Sc : World → Prop), planB ops.toArray p l = true →
    vPl std P T ops p mv S K → SInv E S a w → (∀ S a w, SInv E S a w → SInv E0 S a w) → (∀ S a w, SInv E S a w → Sc w) →
    wpAnyH P .any ops.toArray (fun e a' w' => e = .normal ∧ ∃ S', SInv E0 S' a' w' ∧ K S') Sc p.depth l a w
  | .fin, l, mv, S, a, w, E, Sc, hB, h, hs, hb, hSc => ⟨by simpa [planB] using hB, rfl, S, hb _ _ _ hs, h⟩
  | .q n p, l, mv, S, a, w, E, Sc, hB, h, hs, hb, hSc => by
    simp only [planB, Bool.and_eq_true] at hB
    unfold vPl at h
    split at h <;> try exact h.elim
    rename_i o ho
    obtain ⟨hd, G, gs, hi⟩ := hs
    obtain ⟨S', hrows, hi', hX⟩ := vGd_ok h hi
    have hag : ∀ S2 a2 w2, SInv (envAt E G gs S' w) S2 a2 w2 → Agree G w w2 := fun S2 a2 w2 ⟨_, G2, gs2, hi2⟩ => hi'.agree hi2
    have hback : ∀ S2 a2 w2, SInv (envAt E G gs S' w) S2 a2 w2 → SInv E S2 a2 w2 := fun S2 a2 w2 ⟨h1, G2, gs2, hi2⟩ => ⟨h1, G2, gs2, hi'.back hi2⟩
    refine wpAnyH_mono (Sc := fun w' => Sc w' ∧ Agree G w w') (fun _ h => h.1) _ _ _ _ ?_
    have hself : Sc w ∧ Agree G w w := ⟨hSc _ _ _ ⟨hd, G, gs, hi⟩, fun _ _ => rfl⟩
    have ho' : ops.toArray[n]? = some o := by simpa using ho
    rcases hX with ⟨hw, hv⟩ | ⟨hw, hv⟩
    · obtain ⟨z, h1, h2⟩ := vEOp_ok hT hv
      obtain ⟨v, h3, h4⟩ := h1 E G gs a w hi'
      refine wpAnyH_take (oi := o) (v := v) ho' hsel hB.1.2 hB.1.1 (fun c a w h => absurd h.1 (by simp)) (.inl ⟨hw, fun w' hw' => h3 w' fun b hb => hw'.2 b (hb.elim id fun ⟨r, hr, _⟩ => by cases hr)⟩) hself ?_
      exact pl_ok hT hsel p _ mv _ _ w (envAt E G gs S' w) _ hB.2 h2 ⟨by rw [put_defers]; exact hd, G, gs, envAt_put E G gs S' w o.dst z ▸ (hi'.put h4 o.dst).at⟩ (fun S a w h => hb _ _ _ (hback _ _ _ h)) (fun S a w h => ⟨hSc _ _ _ (hback _ _ _ h), hag _ _ _ h⟩)
    · refine wpAnyH_take (oi := o) (v := undef) ho' hsel hB.1.2 hB.1.1 (fun c a w h => absurd h.1 (by simp)) (.inr ⟨hw, rfl⟩) hself ?_
      exact pl_ok hT hsel p _ mv _ _ w (envAt E G gs S' w) _ hB.2 hv ⟨by rw [put_defers]; exact hd, G, gs, envAt_put E G gs S' w o.dst (.tup []) ▸ (hi'.put (tup_undef _ _ _) o.dst).at⟩ (fun S a w h => hb _ _ _ (hback _ _ _ h)) (fun S a w h => ⟨hSc _ _ _ (hback _ _ _ h), hag _ _ _ h⟩)
  | .s n p, l, mv, S, a, w, E, Sc, hB, h, hs, hb, hSc => by
    simp only [planB, Bool.and_eq_true, decide_eq_true_eq] at hB
    unfold vPl at h
    split at h <;> try exact h.elim
    rename_i o ho
    refine wpAnyH_all hB.1 (by simp) fun i hi => ?_
    obtain rfl : i = n := by simpa using hi
    exact plan_step hT (X := fun o S' => vPl std P T ops p (madeBy o) S' K) ho h hs (fun S' a' w' hK hs' => ⟨hSc _ _ _ hs', pl_ok hT hsel p _ _ S' a' w' E Sc hB.2 hK hs' hb hSc⟩)
      fun S' hK hs' => ⟨hSc _ _ _ hs', pl_ok hT hsel p _ _ _ _ w E Sc hB.2 hK (skip_put hs' o.dst) hb hSc⟩
  | .two n p m r, l, mv, S, a, w, E, Sc, hB, h, hs, hb, hSc => by
    simp only [planB, Bool.and_eq_true, decide_eq_true_eq] at hB
    unfold vPl at h
    split at h <;> try exact h.elim
    rename_i o o' ho ho'
    refine wpAnyH_all hB.1.1.1 (by simp) fun i hi => ?_
    have hin : i = n ∨ i = m := by simpa using hi
    rcases hin with rfl | rfl
    · exact plan_step hT (X := fun o S' => vPl std P T ops p (madeBy o) S' K) ho h.1 hs (fun S' a' w' hK hs' => ⟨hSc _ _ _ hs', pl_ok hT hsel p _ _ S' a' w' E Sc hB.1.2 hK hs' hb hSc⟩)
        fun S' hK hs' => ⟨hSc _ _ _ hs', pl_ok hT hsel p _ _ _ _ w E Sc hB.1.2 hK (skip_put hs' o.dst) hb hSc⟩
    · have := plan_step (Q := fun e a' w' => e = .normal ∧ ∃ S', SInv E0 S' a' w' ∧ K S') (K' := fun a' w' => Sc w' ∧ wpAnyH P .any ops.toArray (fun e a' w' => e = .normal ∧ ∃ S', SInv E0 S' a' w' ∧ K S') Sc r.depth (l.setIfInBounds i true) a' w') hT (X := fun o S' => vPl std P T ops r (madeBy o) S' K) ho' h.2 hs (fun S' a' w' hK hs' => ⟨hSc _ _ _ hs', pl_ok hT hsel r _ _ S' a' w' E Sc hB.2 hK hs' hb hSc⟩)
        fun S' hK hs' => ⟨hSc _ _ _ hs', pl_ok hT hsel r _ _ _ _ w E Sc hB.2 hK (skip_put hs' o'.dst) hb hSc⟩
      rw [← hB.1.1.2] at this
      exact this
/-- A region that draws its order, by a plan; there may be rows. -/
theorem VC_pl (hT : TabOK P T) (hΩ : Ω = std) (hm : P.follows .mixedOrders = true) (p : Pln) {id : Nat} {ops : Array Oper} {K : Exit → State → Prop} (hB : planOK ops p = true)
    (h : vPl Ω P T ops.toList p none S (K .normal)) : VC P (.region id ops true) S K := by
  subst hΩ
  intro E a w hs
  have hops : ops = ops.toList.toArray := by simp
  rw [hops] at hB ⊢
  obtain ⟨hd, G, gs, hi⟩ := hs
  simp only [planOK, Bool.and_eq_true, decide_eq_true_eq] at hB
  obtain ⟨⟨hsel, hsz⟩, hB⟩ := hB
  have hw1 : Go.RowKit.Below w.heap.size w { w with drawn := w.drawn + 1 } := ⟨rfl, rfl, rfl, Nat.le_refl _, fun _ _ => rfl⟩
  have hi1 : Inv E G gs S a.tmps { w with drawn := w.drawn + 1 } := hi.below hw1 (fun _ h => h) (fun _ h => .inl h) (fun b h => Nat.lt_of_lt_of_le (hi.glt b h) hw1.size)
  have hwp : (Code.region id ops.toList.toArray true).wp P (fun e a' w' => e = .normal ∧ ∃ S', SInv E S' a' w' ∧ K .normal S') a w := by
    refine wp_region_held (S := fun _ => True) hm ?_
    have := pl_ok (E0 := E) hT hsel p _ none S a _ E (fun _ => True) hB h ⟨hd, G, gs, hi1⟩ (fun _ _ _ h => h) (fun _ _ _ _ => trivial)
    rw [hsz] at this
    exact this
  refine wp_mono hwp ?_
  rintro e a' w' ⟨rfl, S', hs', hK'⟩
  exact ⟨S', hs', hK'⟩
/-- The same; all orders come to what S1 says. -/
theorem VC_plC (hT : TabOK P T) (hΩ : Ω = std) (hm : P.follows .mixedOrders = true) (p : Pln) (S1 : State) {id : Nat} {ops : Array Oper} {K : Exit → State → Prop} (hB : planOK ops p = true)
    (h : vPl Ω P T ops.toList p none S fun S' => Sbs S' S1) (hK : K .normal S1) : VC P (.region id ops true) S K := by
  intro E a w hs
  refine wp_mono (VC_pl (K := fun e S' => e = .normal ∧ Sbs S' S1) hT hΩ hm p hB (by simpa using h) E a w hs) ?_
  rintro e a' w' ⟨S', hs', rfl, hsub⟩
  exact ⟨S1, hsub P E a' w' hs', hK⟩
end
end Go.Fw

/- Calls that are handed a struct for good whose first cell is an own slice. Plain theorems, no condition. -/
set_option linter.unusedVariables false
set_option linter.unusedSimpArgs false
namespace Go.Fw
section
variable {P : Program} {T : Nat → Option TI} {S : State} {Ω : Opq}
theorem CallOK_eatA {g k r len : Nat} {row : Row} {es es0 es1 rest ys0 ys : List A} {x : A} {K : A → State → Prop} (hc : ECtr P g (.agg (.sl true row.n row.xs :: es1) :: ys) x) (hr : rowAt S.rows r = some row) (hlk : row.lk = false) (hlen : len = row.xs.length)
    (he1 : mapO (roO (S.turn r none) k) (es.map (kill r)) = some es0) (he2 : fitA.fitL k es0 es1)
    (h1 : mapO (roO (S.turn r none) k) (rest.map (kill r)) = some ys0) (h2 : fitA.fitL k ys0 ys) (hxf : roFree x = true) (hno : noOwn (rootA k (S.turn r none) x).1 = true) (hK : K (rootA k (S.turn r none) x).1 (rootA k (S.turn r none) x).2) :
    CallOK P g (.agg (.vw r 0 len :: es) :: rest) S K := by
  refine ⟨hc.enter, fun E G gs tmps w vs hi hl => ?_⟩
  generalize hF0 : ([] : List Nat) = F0 at hl
  cases hl with
  | cons hv hl =>
    rename_i v0 Fa vs Fb
    have hFF : Fa = [] ∧ Fb = [] := by simpa using hF0.symm
    obtain ⟨rfl, rfl⟩ := hFF
    obtain ⟨cs, rfl, hcs⟩ := agg_inv hv
    generalize hcl : cs.toList = cl at hcs
    generalize hF0 : ([] : List Nat) = F0 at hcs
    cases hcs with
    | cons hv hle =>
    rename_i v1 Fa vs1 Fb
    have hFF : Fa = [] ∧ Fb = [] := by simpa using hF0.symm
    obtain ⟨rfl, rfl⟩ := hFF
    have hst1 : stash1 S (.vw r 0 len) = (0 = 0 ∧ len ≤ row.xs.length ∧ row.lk = false, .sl true row.n (row.xs.take len), S.turn r none, [r]) := by simp only [stash1, hr]
    obtain ⟨F, hst, hrel⟩ := stash1_ok (R := []) hi Res.nil hv (by rw [hst1]; exact ⟨rfl, by omega, hlk⟩)
    rw [hst1] at hst hrel
    rw [List.take_of_length_le (by omega)] at hrel
    rw [List.append_nil] at hst
    have hi1 : Inv E G gs (S.turn r none) tmps w := hst.inv
    have hR : Res E G gs (S.turn r none).rows F := hst.res
    have hlt : ∀ b ∈ F, b < w.heap.size := hst.lt (by simp)
    have hl' : TRelL w G (S.turn r none).rows gs (rest.map (kill r)) vs [] := hst.stepL rest vs hl
    have hle' : TRelL w G (S.turn r none).rows gs (es.map (kill r)) vs1 [] := hst.stepL es vs1 hle
    have hys := fitL_rel (fun x y v F => fitA_rel k x y v F) ys0 ys vs [] h2 (mapO_relG (G' := fun b => b < w.heap.size ∧ b ∉ F) (fun x v F y hF hx hy => roO_relG hi1 (fun b hb => ⟨hi1.glt b hb, fun hb2 => (hR.own b hb2).1 hb⟩) (fun r row hr b hb => ⟨hi1.block_lt hr b hb, hR.dis r row hr b hb⟩) k x v F y hF hx hy) (by simp) hl' h1)
    have hes := fitL_rel (fun x y v F => fitA_rel k x y v F) es0 es1 vs1 [] he2 (mapO_relG (G' := fun b => b < w.heap.size ∧ b ∉ F) (fun x v F y hF hx hy => roO_relG hi1 (fun b hb => ⟨hi1.glt b hb, fun hb2 => (hR.own b hb2).1 hb⟩) (fun r row hr b hb => ⟨hi1.block_lt hr b hb, hR.dis r row hr b hb⟩) k x v F y hF hx hy) (by simp) hle' he1)
    have hargs : RelL w (fun b => b < w.heap.size ∧ b ∉ F) (.agg (.sl true row.n row.xs :: es1) :: ys) (.agg cs :: vs) F := by
      have h3 := RelL.cons (hrel.move_ (w' := w) (G' := fun b => b < w.heap.size ∧ b ∉ F) (fun b hb => ⟨⟨hi1.glt b hb, fun hb2 => (hR.own b hb2).1 hb⟩, rfl⟩) (fun _ _ => rfl)) hes
      rw [← hcl] at h3
      have h4 := Rel.agg h3
      rw [List.append_nil] at h4
      have := RelL.cons h4 hys
      simpa using this
    refine Calls.mono (hc.run w (fun b => b < w.heap.size ∧ b ∉ F) (.agg cs :: vs) F (hi1.glt.move (fun b hb => ⟨hi1.glt b hb, fun hb2 => (hR.own b hb2).1 hb⟩) (fun _ _ => rfl) fun b hb => hb.1) hR.nod (fun b hb h => h.2 hb) hargs) ?_
    rintro e w' ⟨v, Fx, rfl, ⟨hos, htape, hout, hsize, hold⟩, hnd, hmem, hx⟩
    obtain ⟨gs2, q1, q2⟩ := eat_end k hi1 hR hlt hos htape hout hsize hold hnd hmem (hx.anyG hxf _) hno
    exact ⟨v, _, _, _, gs2, rfl, hK, q1, q2⟩
theorem call_eatA (hΩ : Ω = std) (k : Nat) {g r len : Nat} {row : Row} {es es0 es1 rest ys0 ys : List A} {x : A} {K : A → State → Prop} (hc : ECtr P g (.agg (.sl true row.n row.xs :: es1) :: ys) x) (hr : rowAt S.rows r = some row) (hlk : row.lk = false) (hlen : len = row.xs.length)
    (he1 : mapO (roO (S.turn r none) k) (es.map (kill r)) = some es0) (he2 : fitA.fitL k es0 es1)
    (h1 : mapO (roO (S.turn r none) k) (rest.map (kill r)) = some ys0) (h2 : fitA.fitL k ys0 ys) (hxf : roFree x = true) (hno : noOwn (rootO Ω k (S.turn r none) x).1 = true) (hK : K (rootO Ω k (S.turn r none) x).1 (rootO Ω k (S.turn r none) x).2) :
    CallX P g (.agg (.vw r 0 len :: es) :: rest) S K := by
  subst hΩ
  rw [rootO_std] at hno hK
  exact ⟨CallOK_eatA hc hr hlk hlen he1 he2 h1 h2 hxf hno hK⟩
end
end Go.Fw

/- Walks: marks of disks. Plain theorems. -/
set_option linter.unusedVariables false
set_option linter.unusedSimpArgs false
namespace Go.Proofs.YtidlnilcdmhkiaaGreatDoor
open Go Go.Fw
set_option maxRecDepth 100000
theorem c_markByteS (cs : List UInt8) (k : Int) (h0 : 0 ≤ k) (h1 : k + cs.length ≤ 1099511627776) (hb : cs.length ≤ 1048576) : ECtr PP n_laws_markByteS [.sl true 1 (cs.map byteA), i64 k] (i64 (k + cs.length)) := by
  obtain ⟨Ω, hΩ⟩ : ∃ Ω, Ω = std := ⟨_, rfl⟩
  obtain ⟨xs, hxs⟩ : ∃ xs, xs = cs.map byteA := ⟨_, rfl⟩
  have hlen : xs.length = cs.length := by rw [hxs, List.length_map]
  have hna : ∀ y ∈ xs, vStore.isAggA y = false := fun y hy => by rw [hxs] at hy; obtain ⟨c, _, rfl⟩ := List.mem_map.1 hy; rfl
  obtain ⟨n, hn⟩ : ∃ n, n = cs.length := ⟨_, rfl⟩
  rw [← hn] at hlen h1 hb ⊢
  obtain ⟨kf, hkf⟩ : ∃ kf : Nat → Int, ∀ i : Nat, kf i = k + (i : Int) := ⟨_, fun _ => rfl⟩
  have hk0 : kf 0 = k := by rw [hkf]; omega
  have hkn : k + (n : Int) = kf n := by rw [hkf]
  have hkp : ∀ i, i ≤ n → 0 ≤ kf i ∧ kf i ≤ 1099511627776 := fun i hi => by rw [hkf]; omega
  have hks : ∀ i, kf i + 1 = kf (i + 1) := fun i => by rw [hkf, hkf]; omega
  rw [hkn, ← hxs]
  clear hkf hkn hxs hn
  have hle : Ω.len xs = xs.length := by subst hΩ; rfl
  have htab := tab
  have hmo := hmo
  refine ECtr.walk tab hΩ 3 fn_laws_markByteS rfl rfl ?_
  generalize PP = P at *
  cbv
  refine loopX htab hΩ (fun i : Nat × List A => ⟨[(0, .vw 0 0 (Ω.len xs)), (1, i64 (kf i.1)), (5, i64 (Ω.int i.1))], 20, [some ⟨1, i.2, false⟩]⟩)
    (fun i => i.1 ≤ n ∧ i.2.length = n ∧ (∀ y ∈ i.2, vStore.isAggA y = false)) (fun i => n - i.1) (0, xs) ⟨Nat.zero_le _, hlen, hna⟩ (Sbs.mk rfl rfl ⟨rfl, congrArg i64 hk0.symm, zeroI hΩ, trivial⟩) ?_
  rintro ⟨i, ys⟩ ⟨hi, hyl, hyn⟩
  dsimp only at hi hyl hyn
  dsimp only
  have hki := hkp i hi
  cbv
  refine br (fun h => ?_) (fun h => ?_) <;> cbv
  · replace h := ltI hΩ h
    have hki1 := hkp (i + 1) (by omega)
    have hil : i < Ω.len xs := by rw [hle]; exact h
    have hy1 := (addV hΩ hki.1 (by omega)).trans (hks i)
    refine ⟨⟨ixI hΩ hil⟩, ⟨by subst hΩ; show 0 + i < ys.length; omega, hyn⟩, (i + 1, Ω.set ys (Ω.plus 0 (Ω.nat (Ω.int i))) (.sc (.int .u8 (Ω.wrap .u8 (kf i))))), ⟨by dsimp only; omega, by subst hΩ; show (ys.set _ _).length = n; rw [List.length_set]; exact hyl, setNA hΩ hyn rfl⟩, by dsimp only; omega,
      Sbs.mk rfl rfl ⟨rfl, congrArg i64 hy1, incI hΩ (by omega), trivial⟩⟩
  · have hj : i = n := by have := geI hΩ h; omega
    subst hj
    exact .same
def Fil.cnt (o : Fil) : Nat := 1 + o.d.length
theorem c_markFileS (cs : List Fil) (k : Int) (h0 : 0 ≤ k) (h1 : k + psum Fil.cnt cs cs.length ≤ 1099511627776) (hb : cs.length ≤ 1048576) (hl : ∀ l ∈ cs, l.d.length ≤ 1048576) : ECtr PP n_laws_markFileS [.sl true 2 (cs.map (Fil.enc true)), i64 k] (i64 (k + psum Fil.cnt cs cs.length)) := by
  obtain ⟨Ω, hΩ⟩ : ∃ Ω, Ω = std := ⟨_, rfl⟩
  obtain ⟨xs, hxs⟩ : ∃ xs, xs = cs.map (Fil.enc true) := ⟨_, rfl⟩
  have hlen : xs.length = cs.length := by rw [hxs, List.length_map]
  obtain ⟨kf, hkf⟩ : ∃ kf : Nat → Int, kf = fun i => k + psum Fil.cnt cs i := ⟨_, rfl⟩
  have hk0 : kf 0 = k := by rw [hkf]; simp [psum_zero]
  have hkn : kf cs.length = k + psum Fil.cnt cs cs.length := by rw [hkf]
  have hkp : ∀ i, 0 ≤ kf i ∧ kf i ≤ 1099511627776 := fun i => by rw [hkf]; have := psum_le (f := Fil.cnt) (d := cs) i; simp only; omega
  have hks : ∀ i c, cs[i]? = some c → kf (i + 1) = kf i + (Fil.cnt c : Nat) := fun i c h => by rw [hkf]; simp only; rw [psum_at h]; omega
  clear hkf
  rw [← hkn, ← hxs]
  have hle : Ω.len xs = xs.length := by subst hΩ; rfl
  have hc := c_markText
  have hcl : ∀ i c, cs[i]? = some c → ∃ y1 : Int, kf i + 1 = y1 ∧ ECtr PP n_laws_markByteS [.sl true 1 (c.d.map byteA), i64 y1] (i64 (kf (i + 1))) := fun i c h => by
    have hki := hkp i
    have hki1 := hkp (i + 1)
    have e := hks i c h
    have e2 : (Fil.cnt c : Int) = 1 + c.d.length := by unfold Fil.cnt; omega
    have hm := c_markByteS c.d (kf i + 1) (by omega) (by omega) (hl c (List.mem_of_getElem? h))
    rw [show kf i + 1 + (c.d.length : Int) = kf (i + 1) by omega] at hm
    exact ⟨_, rfl, hm⟩
  have htab := tab
  have hmo := hmo
  refine ECtr.walk tab hΩ 3 fn_laws_markFileS rfl rfl ?_
  generalize PP = P at *
  cbv
  refine loopX htab hΩ (fun i : Nat × List A => ⟨[(0, .vw 0 0 (Ω.len xs)), (1, i64 (kf i.1)), (5, i64 (Ω.int i.1))], 28, [some ⟨2, i.2, false⟩]⟩)
    (fun i => i.1 ≤ cs.length ∧ i.2.length = cs.length ∧ (∀ q, i.1 ≤ q → i.2[q]? = xs[q]?)) (fun i => cs.length - i.1) (0, xs) ⟨Nat.zero_le _, hlen, fun _ _ => rfl⟩ (Sbs.mk rfl rfl ⟨rfl, congrArg i64 hk0.symm, zeroI hΩ, trivial⟩) ?_
  rintro ⟨i, ys⟩ ⟨hi, hyl, hya⟩
  dsimp only at hi hyl hya
  dsimp only
  have hki := hkp i
  have hki1 := hkp (i + 1)
  cbv
  refine br (fun h => ?_) (fun h => ?_) <;> cbv
  · replace h := ltI hΩ h
    obtain ⟨c, hcc⟩ := at_of (cs := cs) (by omega : i < cs.length)
    have hlk : Like xs i ys := ⟨by omega, fun q hq => hya q (by omega)⟩
    have hyi : ys[i]? = some ((Fil.enc true) c) := by rw [hya i (Nat.le_refl _), hxs, List.getElem?_map, hcc]; rfl
    have hil : i < Ω.len xs := by rw [hle]; exact h
    obtain ⟨y1, hy1, hmp⟩ := hcl i c hcc
    have hlt : i < ys.length := by omega
    have hy1' := (addV hΩ hki.1 (by omega)).trans hy1
    refine call_pure hΩ 3 (hc (kf i) (by omega)) rfl (fits _) rfl rfl ?_
    generalize markT (kf i) = mt
    obtain ⟨ps, hen, hps⟩ : ∃ ps, Fil.enc true c = .agg [str c.p, .sl true 1 ps] ∧ ps = c.d.map byteA := ⟨_, rfl, rfl⟩
    rw [← hps] at hmp
    cbv
    refine ⟨⟨ixI hΩ hil⟩, _, (atI hΩ hyi).trans (congrArg some hen), ?_⟩
    cbv
    refine ⟨⟨ixI hΩ hil⟩, _, setI hΩ hlt, ?_⟩
    cbv
    refine call_eat2 (row := ⟨1, ps, false⟩) hΩ 3 hmp rfl rfl (by subst hΩ; rfl) rfl (fitsE (congrArg (fun z => [i64 z]) hy1')) rfl rfl ?_
    cbv
    refine ⟨(i + 1, _), ⟨?pa, ?pb, ?pc⟩, ?pd, Sbs.trans (Sbs.lastN (rows := [_]) rfl) (Sbs.mk rfl rfl ⟨rfl, rfl, incI hΩ (by omega), trivial⟩)⟩
    case pa => dsimp only; omega
    case pd => dsimp only; omega
    case pb => exact ((hlk.set hΩ).set hΩ).len.trans hlen
    case pc => exact fun q hq => ((hlk.set hΩ).set hΩ).at' q hq
  · have hj : i = cs.length := by have := geI hΩ h; omega
    subst hj
    exact .same
def Dsk.cnt (x : Dsk) : Nat := psum Fil.cnt x.f x.f.length
theorem c_markDisk (x : Dsk) (k : Int) (h0 : 0 ≤ k) (h1 : k + x.cnt ≤ 1099511627776) (hx : x.Fit) : ECtr PP n_laws_markDisk [x.enc true true, i64 k] (i64 (k + x.cnt)) := by
  obtain ⟨Ω, hΩ⟩ : ∃ Ω, Ω = std := ⟨_, rfl⟩
  have hm := c_markFileS x.f k h0 h1 hx.n hx.d
  unfold Dsk.cnt
  unfold Dsk.enc
  generalize (k + (psum Fil.cnt x.f x.f.length : Nat) : Int) = kn at *
  generalize x.f.map (Fil.enc true) = xs at *
  have htab := tab
  have hmo := hmo
  refine ECtr.walk tab hΩ 3 fn_laws_markDisk rfl rfl ?_
  generalize PP = P at *
  cbv
  refine call_eat2 (row := ⟨2, xs, false⟩) hΩ 3 hm rfl rfl (by subst hΩ; rfl) rfl (fits _) rfl rfl ?_
  cbv
  exact .same
end Go.Proofs.YtidlnilcdmhkiaaGreatDoor

/- Walks: equal disks are told so. Plain theorems. -/
set_option linter.unusedVariables false
set_option linter.unusedSimpArgs false
namespace Go.Proofs.YtidlnilcdmhkiaaGreatDoor
open Go Go.Fw
set_option maxRecDepth 100000
theorem bne_self {Ω : Opq} (hΩ : Ω = std) {b : Bool} (h : Ω.cmpB .neq b b = true) : False := by subst hΩ; cases b <;> cases h
theorem c_eqByteS (cs : List (UInt8)) (hb : cs.length ≤ 1048576) : PCtr PP n_laws_eqByteS [.sl false 1 (cs.map (byteA)), .sl false 1 (cs.map (byteA))] (boo true) := by
  obtain ⟨Ω, hΩ⟩ : ∃ Ω, Ω = std := ⟨_, rfl⟩
  obtain ⟨xs, hxs⟩ : ∃ xs, xs = cs.map (byteA) := ⟨_, rfl⟩
  have hlen : xs.length = cs.length := by rw [hxs, List.length_map]
  rw [← hxs]
  have htab := tab
  have hmo := hmo
  refine PCtr.walk tab hΩ fn_laws_eqByteS rfl ?_
  generalize PP = P at *
  cbv
  refine br (fun h => (ne_self hΩ h).elim) (fun h => ?_)
  cbv
  refine loopX htab hΩ (fun i : Nat => ⟨[(0, .sl false 1 xs), (1, .sl false 1 xs), (5, .sc (.int .i64 (Ω.int i)))], 26, []⟩) (fun i => i ≤ cs.length) (fun i => cs.length - i) 0 (Nat.zero_le _) (Sbs.mk rfl rfl ⟨rfl, rfl, zeroI hΩ, trivial⟩) (fun i hi => ?_)
  cbv
  refine br (fun h => ?_) (fun h => ?_)
  · replace h := ltI hΩ h
    obtain ⟨c, hcc⟩ := at_of (cs := cs) (by omega : i < _)
    have hcm := List.mem_of_getElem? hcc
    cbv
    repeat' (first | (refine br (fun h => (notT hΩ h).elim) (fun h => ?_); cbv) | (refine br (fun h => (ne_self hΩ h).elim) (fun h => ?_); cbv) | (refine br (fun h => (sne_self hΩ h).elim) (fun h => ?_); cbv) | (refine ⟨VC_drawn htab hΩ hmo (by kernel_rfl) ?_⟩; cbv) | (refine ⟨⟨nnI hΩ⟩, _, rdI hΩ hxs hcc, ?_⟩; cbv))
    exact ⟨i + 1, by omega, by omega, Sbs.mk rfl rfl ⟨rfl, rfl, incI hΩ (by omega), trivial⟩⟩
  · cbv
    exact .same
theorem c_eqFile (o : Fil) (hs : o.d.length ≤ 1048576) : PCtr PP n_laws_eqFile [o.enc false, o.enc false] (boo true) := by
  obtain ⟨Ω, hΩ⟩ : ∃ Ω, Ω = std := ⟨_, rfl⟩
  have h1 := c_eqByteS o.d hs
  unfold Fil.enc
  generalize o.d.map byteA = ds at *
  have htab := tab
  have hmo := hmo
  refine PCtr.walk tab hΩ fn_laws_eqFile rfl ?_
  generalize PP = P at *
  cbv
  repeat' (first | (refine br (fun h => (notT hΩ h).elim) (fun h => ?_); cbv) | (refine br (fun h => (ne_self hΩ h).elim) (fun h => ?_); cbv) | (refine br (fun h => (sne_self hΩ h).elim) (fun h => ?_); cbv) | (refine ⟨VC_drawn htab hΩ hmo (by kernel_rfl) ?_⟩; cbv) | (refine call_pure hΩ 3 h1 rfl (fits _) rfl rfl ?_; cbv) | (refine QCall_pure (k := 3) h1 rfl (fits _) rfl ?_; cbv))
  exact .same
theorem c_eqFileS (cs : List (Fil)) (hb : cs.length ≤ 1048576) (hl : ∀ f ∈ cs, f.d.length ≤ 1048576) : PCtr PP n_laws_eqFileS [.sl false 2 (cs.map (Fil.enc false)), .sl false 2 (cs.map (Fil.enc false))] (boo true) := by
  obtain ⟨Ω, hΩ⟩ : ∃ Ω, Ω = std := ⟨_, rfl⟩
  obtain ⟨xs, hxs⟩ : ∃ xs, xs = cs.map (Fil.enc false) := ⟨_, rfl⟩
  have hlen : xs.length = cs.length := by rw [hxs, List.length_map]
  rw [← hxs]
  have hc : ∀ c ∈ cs, PCtr PP n_laws_eqFile [Fil.enc false c, Fil.enc false c] (boo true) := fun c h => c_eqFile c (hl c h)
  have htab := tab
  have hmo := hmo
  refine PCtr.walk tab hΩ fn_laws_eqFileS rfl ?_
  generalize PP = P at *
  cbv
  refine br (fun h => (ne_self hΩ h).elim) (fun h => ?_)
  cbv
  refine loopX htab hΩ (fun i : Nat => ⟨[(0, .sl false 2 xs), (1, .sl false 2 xs), (5, .sc (.int .i64 (Ω.int i)))], 27, []⟩) (fun i => i ≤ cs.length) (fun i => cs.length - i) 0 (Nat.zero_le _) (Sbs.mk rfl rfl ⟨rfl, rfl, zeroI hΩ, trivial⟩) (fun i hi => ?_)
  cbv
  refine br (fun h => ?_) (fun h => ?_)
  · replace h := ltI hΩ h
    obtain ⟨c, hcc⟩ := at_of (cs := cs) (by omega : i < _)
    have hcm := List.mem_of_getElem? hcc
    obtain ⟨ds, hen⟩ : ∃ ds, Fil.enc false c = .agg [str c.p, .sl false 1 ds] := ⟨_, rfl⟩
    have hcc1 := hc c hcm
    rw [hen] at hcc1
    cbv
    repeat' (first | (refine br (fun h => (notT hΩ h).elim) (fun h => ?_); cbv) | (refine br (fun h => (ne_self hΩ h).elim) (fun h => ?_); cbv) | (refine br (fun h => (sne_self hΩ h).elim) (fun h => ?_); cbv) | (refine ⟨VC_drawn htab hΩ hmo (by kernel_rfl) ?_⟩; cbv) | (refine ⟨⟨nnI hΩ⟩, _, (rdI hΩ hxs hcc).trans (congrArg some hen), ?_⟩; cbv) | (refine call_pure hΩ 3 hcc1 rfl (fits _) rfl rfl ?_; cbv) | (refine QCall_pure (k := 3) hcc1 rfl (fits _) rfl ?_; cbv))
    exact ⟨i + 1, by omega, by omega, Sbs.mk rfl rfl ⟨rfl, rfl, incI hΩ (by omega), trivial⟩⟩
  · cbv
    exact .same
theorem c_eqDisk (x : Dsk) (hx : x.Fit) : PCtr PP n_laws_eqDisk [x.enc false false, x.enc false false] (boo true) := by
  obtain ⟨Ω, hΩ⟩ : ∃ Ω, Ω = std := ⟨_, rfl⟩
  have h1 := c_eqFileS x.f hx.n hx.d
  unfold Dsk.enc
  generalize x.f.map (Fil.enc false) = xs at *
  have htab := tab
  have hmo := hmo
  refine PCtr.walk tab hΩ fn_laws_eqDisk rfl ?_
  generalize PP = P at *
  cbv
  repeat' (first | (refine br (fun h => (bne_self hΩ h).elim) (fun h => ?_); cbv) | (refine br (fun h => (notT hΩ h).elim) (fun h => ?_); cbv) | (refine br (fun h => (ne_self hΩ h).elim) (fun h => ?_); cbv) | (refine br (fun h => (sne_self hΩ h).elim) (fun h => ?_); cbv) | (refine ⟨VC_drawn htab hΩ hmo (by kernel_rfl) ?_⟩; cbv) | (refine call_pure hΩ 3 h1 rfl (fits _) rfl rfl ?_; cbv) | (refine QCall_pure (k := 3) h1 rfl (fits _) rfl ?_; cbv))
  exact .same
end Go.Proofs.YtidlnilcdmhkiaaGreatDoor

/- Helpers of laws about disks. Plain theorems. -/
set_option linter.unusedVariables false
set_option linter.unusedSimpArgs false
namespace Go.Proofs.YtidlnilcdmhkiaaGreatDoor
open Go Go.Fw
theorem ro_agg5 {S : State} {k : Nat} {a a' b c d e : A} (ha : roO S (k + 1) a = some a') (hb : roO S (k + 1) b = some b) (hc : roO S (k + 1) c = some c) (hd : roO S (k + 1) d = some d) (he : roO S (k + 1) e = some e) : roO S (k + 2) (.agg [a, b, c, d, e]) = some (.agg [a', b, c, d, e]) := by
  show (mapO (roO S (k + 1)) [a, b, c, d, e]).map A.agg = _
  simp [mapO, ha, hb, hc, hd, he]
theorem mapO_cons {f : A → Option A} {x x' : A} {xs xs' : List A} (h : f x = some x') (hs : mapO f xs = some xs') : mapO f (x :: xs) = some (x' :: xs') := by simp [mapO, h, hs]
theorem szD_facts {x : Dsk} {l l2 : Int} (h : szD x l = l2) (h1 : l ≤ 1048576) (h2 : 0 ≤ l2) : x.Fit := by
  rw [szD_cost] at h
  refine Dsk.fit_of ?_
  split at h <;> omega
theorem cnt_cost (x : Dsk) : x.cnt ≤ cD x := by
  unfold Dsk.cnt cD psum costS
  rw [List.take_length]
  generalize x.f = l
  induction l with
  | nil => simp
  | cons f l ih =>
    have e1 : f.cnt = 1 + f.d.length := rfl
    have e2 : cF f = f.p.length + f.d.length := rfl
    simp only [List.map_cons, List.sum_cons, List.length_cons]
    omega
theorem szD_cnt {x : Dsk} {l l2 : Int} (h : szD x l = l2) (h1 : l ≤ 1048576) (h2 : 0 ≤ l2) : x.cnt ≤ 2097152 := by
  rw [szD_cost] at h
  have := cnt_cost x
  split at h <;> omega
end Go.Proofs.YtidlnilcdmhkiaaGreatDoor

/- Walks: a disk's present number in the spec, places, sizes. Plain theorems. -/
set_option linter.unusedVariables false
set_option linter.unusedSimpArgs false
namespace Go.Proofs.YtidlnilcdmhkiaaGreatDoor
open Go Go.Fw
set_option maxRecDepth 100000
/-- Where the spec finds a path in files in order, and what lies there. -/
structure Fnd (xs : List A) (z : Int) (h : Bool) (d : List UInt8) : Prop where
  neg : h = false → z < 0 ∧ d = []
  pos : h = true → 0 ≤ z ∧ ∃ p, xs[z.toNat]? = some (.agg [str p, .sl false 1 (d.map byteA)])
theorem fnd_of {l : List Fil} (ho : ordF l) (p : List UInt8) : Fnd (l.map (Fil.enc false)) (fndF l p) (hasF l p) (datF l p) := by
  have e : fndF l p = if hasF l p then ((0 + plcF l p : Nat) : Int) else -1 := fndF_of ho
  refine ⟨fun h => ?_, fun h => ?_⟩
  · rw [e, h]; unfold datF; rw [h]; exact ⟨by simp, rfl⟩
  · rw [e, if_pos h]
    unfold datF
    rw [if_pos h]
    unfold hasF at h
    cases hf : l[plcF l p]? with
    | none => rw [hf] at h; cases h
    | some f => exact ⟨by omega, f.p, by rw [List.getElem?_map, show ((0 + plcF l p : Nat) : Int).toNat = plcF l p by omega, hf]; rfl⟩
end Go.Proofs.YtidlnilcdmhkiaaGreatDoor

/- The library's sort of int64s, as a contract that writes into what it is handed. Plain theorems. -/
set_option linter.unusedVariables false
set_option linter.unusedSimpArgs false
namespace Go.Proofs
open Go.Shelf
def Tryz.sortI_ren : Go.Shelf.Ren := ⟨fun | 5 => 146 | 8 => 168 | 7 => 180 | 19 => 199 | 20 => 200 | 10 => 208 | 11 => 209 | 12 => 210 | 13 => 211 | 14 => 212 | 15 => 213 | 16 => 214 | 17 => 215 | 18 => 216 | 30 => 236 | 31 => 224 | 32 => 225 | 33 => 237 | 34 => 238 | 35 => 239 | 40 => 249 | n => n, fun | 23 => 60 | 25 => 2 | 3 => 3 | 32 => 171 | 22 => 60 | 0 => 0 | 44 => 205 | 46 => 208 | 4 => 4 | 36 => 222 | 35 => 221 | 41 => 166 | 5 => 5 | 9 => 9 | 53 => 247 | 57 => 251 | 63 => 263 | 64 => 264 | n => n, fun | n => n⟩
theorem Tryz.sortI : Go.Proofs.SlLaysM.n5 Tryz.prog Tryz.sortI_ren where
  mixed := by kernel_rfl
  f5 := ⟨"slices.Sort[[]int64,int64]", by decide, Tryz.func146.trans (congrArg some (by kernel_rfl))⟩
  f7 := ⟨"slices.pdqsortOrdered[int64]", by decide, Tryz.func180.trans (congrArg some (by kernel_rfl))⟩
  f8 := Tryz.func168.trans (congrArg some (by kernel_rfl))
  f10 := ⟨"slices.insertionSortOrdered[int64]", by decide, Tryz.func208.trans (congrArg some (by kernel_rfl))⟩
  f11 := ⟨"slices.heapSortOrdered[int64]", by decide, Tryz.func209.trans (congrArg some (by kernel_rfl))⟩
  f12 := ⟨"slices.breakPatternsOrdered[int64]", by decide, Tryz.func210.trans (congrArg some (by kernel_rfl))⟩
  f13 := ⟨"slices.choosePivotOrdered[int64]", by decide, Tryz.func211.trans (congrArg some (by kernel_rfl))⟩
  f14 := ⟨"slices.reverseRangeOrdered[int64]", by decide, Tryz.func212.trans (congrArg some (by kernel_rfl))⟩
  f15 := ⟨"slices.partialInsertionSortOrdered[int64]", by decide, Tryz.func213.trans (congrArg some (by kernel_rfl))⟩
  f16 := ⟨"cmp.Less[int64]", by decide, Tryz.func214.trans (congrArg some (by kernel_rfl))⟩
  f17 := ⟨"slices.partitionEqualOrdered[int64]", by decide, Tryz.func215.trans (congrArg some (by kernel_rfl))⟩
  f18 := ⟨"slices.partitionOrdered[int64]", by decide, Tryz.func216.trans (congrArg some (by kernel_rfl))⟩
  f19 := Tryz.func199.trans (congrArg some (by kernel_rfl))
  f20 := Tryz.func200.trans (congrArg some (by kernel_rfl))
  f30 := ⟨"slices.siftDownOrdered[int64]", by decide, Tryz.func236.trans (congrArg some (by kernel_rfl))⟩
  f31 := Tryz.func224.trans (congrArg some (by kernel_rfl))
  f32 := Tryz.func225.trans (congrArg some (by kernel_rfl))
  f33 := ⟨"slices.medianAdjacentOrdered[int64]", by decide, Tryz.func237.trans (congrArg some (by kernel_rfl))⟩
  f34 := ⟨"slices.medianOrdered[int64]", by decide, Tryz.func238.trans (congrArg some (by kernel_rfl))⟩
  f35 := ⟨"cmp.isNaN[int64]", by decide, Tryz.func239.trans (congrArg some (by kernel_rfl))⟩
  f40 := ⟨"slices.order2Ordered[int64]", by decide, Tryz.func249.trans (congrArg some (by kernel_rfl))⟩
  t0 := Tryz.underlying0
  a0 := Tryz.isAgg0
  z0 := Tryz.sizeOf0
  v0 := Tryz.zeroValue0
  t3 := Tryz.underlying3
  a3 := Tryz.isAgg3
  z3 := Tryz.sizeOf3
  v3 := Tryz.zeroValue3
  t4 := Tryz.underlying4
  a4 := Tryz.isAgg4
  z4 := Tryz.sizeOf4
  v4 := Tryz.zeroValue4
  t5 := Tryz.underlying5
  a5 := Tryz.isAgg5
  z5 := Tryz.sizeOf5
  v5 := Tryz.zeroValue5
  t9 := Tryz.underlying9
  a9 := Tryz.isAgg9
  z9 := Tryz.sizeOf9
  v9 := Tryz.zeroValue9
  t22 := Tryz.underlying60
  a22 := Tryz.isAgg60
  z22 := Tryz.sizeOf60
  v22 := Tryz.zeroValue60
  t23 := Tryz.underlying60
  a23 := Tryz.isAgg60
  z23 := Tryz.sizeOf60
  v23 := Tryz.zeroValue60
  t25 := Tryz.underlying2
  a25 := Tryz.isAgg2
  z25 := Tryz.sizeOf2
  v25 := Tryz.zeroValue2
  t32 := Tryz.underlying171
  a32 := Tryz.isAgg171
  z32 := Tryz.sizeOf171
  v32 := Tryz.zeroValue171
  t35 := Tryz.underlying221
  a35 := Tryz.isAgg221
  z35 := Tryz.sizeOf221
  v35 := Tryz.zeroValue221
  t36 := Tryz.underlying222
  a36 := Tryz.isAgg222
  z36 := Tryz.sizeOf222
  v36 := Tryz.zeroValue222
  t41 := Tryz.underlying166
  a41 := Tryz.isAgg166
  z41 := Tryz.sizeOf166
  v41 := Tryz.zeroValue166
  t44 := Tryz.underlying205
  a44 := Tryz.isAgg205
  z44 := Tryz.sizeOf205
  v44 := Tryz.zeroValue205
  t46 := Tryz.underlying208
  a46 := Tryz.isAgg208
  z46 := Tryz.sizeOf208
  v46 := Tryz.zeroValue208
  t53 := Tryz.underlying247
  a53 := Tryz.isAgg247
  z53 := Tryz.sizeOf247
  v53 := Tryz.zeroValue247
  t57 := Tryz.underlying251
  a57 := Tryz.isAgg251
  z57 := Tryz.sizeOf251
  v57 := Tryz.zeroValue251
  t63 := Tryz.underlying263
  a63 := Tryz.isAgg263
  z63 := Tryz.sizeOf263
  v63 := Tryz.zeroValue263
  t64 := Tryz.underlying264
  a64 := Tryz.isAgg264
  z64 := Tryz.sizeOf264
  v64 := Tryz.zeroValue264

end Go.Proofs
namespace Go.Proofs.YtidlnilcdmhkiaaGreatDoor
open Go Go.Fw Go.Sort Go.Proofs
theorem relI : ∀ {xs : List Int} {w : World} {G : Nat → Prop} {vs : List Value} {F : List Nat}, RelL w G (xs.map i64) vs F → vs = xs.map (Value.int .i64) ∧ F = []
  | [], _, _, _, _, h => by cases h; exact ⟨rfl, rfl⟩
  | x :: xs, _, _, _, _, h => by
    cases h with
    | cons h hl =>
      obtain ⟨rfl, rfl⟩ := relI hl
      cases h
      exact ⟨rfl, rfl⟩
theorem ofI {w : World} {G : Nat → Prop} : ∀ (xs : List Int), RelL w G (xs.map i64) (xs.map (Value.int .i64)) []
  | [] => .nil
  | x :: xs => .cons (F := []) (Fs := []) (.sc rfl) (ofI xs)
theorem flatI (xs : List Int) : flat (xs.map i64) = xs.map i64 := by
  induction xs with
  | nil => rfl
  | cons x xs ih => simp only [flat, List.map_cons, List.flatMap_cons] at *; rw [ih]; rfl
/-- The numbers in order. -/
def sortZ (xs : List Int) : List Int := xs.mergeSort fun x y => decide (x ≤ y)
theorem c_SortI (xs : List Int) (hb : xs.length ≤ 4194304) : MCtr PP n_slices_Sort_L_int64_int64 [.sl true 1 (xs.map i64)] (.tup []) [.sl true 1 ((sortZ xs).map i64)] := by
  have hlen : (sortZ xs).length = xs.length := List.length_mergeSort _
  refine ⟨fn_slices_Sort_L_int64_int64.1, fun w G vs F hG hnd hF hl => ?_⟩
  cases hl with
  | cons h hl =>
    cases hl
    rw [List.append_nil] at *
    generalize hys : xs.map i64 = ys at h
    cases h with
    | nils =>
      have h0 : xs = [] := by cases xs with
        | nil => rfl
        | cons a b => cases hys
      subst h0
      refine Calls.mono (AnyM.slices_Sort_int_none Tryz.sortI none 0 w) ?_
      rintro e w' ⟨rfl, rfl⟩
      exact ⟨_, [], [], rfl, ⟨rfl, rfl, rfl, Nat.le_refl _, fun _ _ _ => rfl⟩, List.nodup_nil, by simp, .tup .nil, .cons (F := []) (Fs := []) (by rw [show (sortZ []).map i64 = [] by simp [sortZ]]; exact .nils) .nil⟩
    | ow hh hw hlen1 hc hl hcap hm hs hv =>
      rename_i b len cap cur e cs F
      subst hys
      rw [flatI] at hl
      obtain ⟨rfl, rfl⟩ := relI hl
      have hl2 : len = xs.length := by rw [hlen1, List.length_map]
      subst hl2
      rw [Nat.mul_one] at hc
      have hH : Holds (Value.int .i64) w b 0 xs.toArray := holds_of_blockI hh hc.symm
      have hblk : b < w.heap.size := (Array.getElem?_eq_some_iff.1 hh).1
      refine Calls.mono (AnyM.slices_Sort_int Tryz.sortI b 0 cap xs w hH hblk (by omega)) ?_
      rintro e' w' ⟨rfl, n, os, rfl⟩
      have hgr := grownBy_sortedI (w := w) (g := b) (n := n) (os := os) (sortZ xs).toArray
      have hhp := heap_sortedI (n := n) (os := os) (sortZ xs).toArray hh
      have hcur : xs.length ≤ cur.size := by rw [hs]; omega
      have htk := take_putCellsI cur (sortZ xs) (by rw [hlen]; exact hcur)
      have hcap' : cur.size = cap := by rw [hs, Nat.mul_one]
      refine ⟨_, [], [b], rfl, ⟨hgr.os, hgr.tape, hgr.output, hgr.size, fun k hk hkF => hgr.block k hk (by simpa using hkF)⟩, by simp, by simp, .tup .nil, ?_⟩
      refine .cons (F := [b]) (Fs := []) (.ow (F := []) hhp ?_ ?_ rfl ?_ hcap hm ?_ ?_) .nil
      · intro x hx; obtain ⟨k, _, rfl⟩ := List.mem_map.1 hx; rfl
      · rw [List.length_map, hlen]
      · rw [flatI, Nat.mul_one, ← hlen, htk]; exact ofI _
      · simp [putCells, hcap']
      · intro v hv
        rw [Nat.mul_one, ← hlen, htk] at hv
        obtain ⟨k, _, rfl⟩ := List.mem_map.1 hv; rfl
end Go.Proofs.YtidlnilcdmhkiaaGreatDoor

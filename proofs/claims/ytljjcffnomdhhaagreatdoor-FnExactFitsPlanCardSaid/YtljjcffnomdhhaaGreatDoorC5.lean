/- The library's prefixes, repeats and orders of texts, as contracts. Plain theorems. -/
import Derived.Test.YtljjcffnomdhhaaGreatDoorC4
import Derived.Shelf.Strings.Repeat
import Derived.Shelf.Strings.Prefix
import Derived.Shelf.Small.Strs
import Derived.Shelf.Small.Wraps
import Derived.Shelf.Strings.SplitCore
import Derived.Shelf.Strings.Search3
import Derived.Shelf.Strings.Count
import Derived.Lib.IndexBytes
import Derived.Lib.SplitLaws
import Derived.Ground.NamesProg
import Derived.Shelf.SortM.Plain
import Derived.Shelf.SortM.SortNone
import Derived.Ground.SlgmProg
import Derived.Sort.OwnSortedInts
import Derived.Shelf.SlicesG.CompactS
import Derived.Ground.SlgnProg
import Derived.Sort.OwnSorted
import Derived.Lib.Repeat
import Derived.Lib.Bytealg
import Derived.Sort.Walk0
import Derived.Shelf.Spec.SlicesGrow
import Derived.Ground.Names8Prog
set_option linter.unusedVariables false
set_option linter.unusedSimpArgs false
namespace Go.Proofs
open Go.Shelf
def Tryz.repS_ren : Go.Shelf.Ren := ⟨fun | 105 => 187 | 212 => 226 | 99 => 206 | 165 => 172 | 166 => 173 | 170 => 227 | 169 => 174 | 263 => 253 | 264 => 254 | 206 => 237 | 240 => 218 | 241 => 219 | 276 => 251 | 277 => 252 | n => n, fun | 9 => 9 | 3 => 3 | 4 => 4 | 20 => 20 | 0 => 0 | 46 => 248 | 109 => 249 | 5 => 5 | 72 => 205 | 76 => 209 | 51 => 258 | 146 => 269 | 53 => 234 | 148 => 271 | 70 => 203 | 37 => 108 | 75 => 208 | 127 => 244 | 164 => 266 | 80 => 120 | n => n, fun | n => n⟩
theorem Tryz.repS : Go.Proofs.Lays.n105 Tryz.prog Tryz.repS_ren where
  mixed := by kernel_rfl
  f99 := Tryz.func206.trans (congrArg some (by kernel_rfl))
  f105 := Tryz.func187.trans (congrArg some (by kernel_rfl))
  f165 := Tryz.func172.trans (congrArg some (by kernel_rfl))
  f166 := Tryz.func173.trans (congrArg some (by kernel_rfl))
  f169 := Tryz.func174.trans (congrArg some (by kernel_rfl))
  f170 := Tryz.func227.trans (congrArg some (by kernel_rfl))
  f206 := Tryz.func237.trans (congrArg some (by kernel_rfl))
  f212 := Tryz.func226.trans (congrArg some (by kernel_rfl))
  f240 := Tryz.func218.trans (congrArg some (by kernel_rfl))
  f241 := Tryz.func219.trans (congrArg some (by kernel_rfl))
  f263 := Tryz.func253.trans (congrArg some (by kernel_rfl))
  f264 := Tryz.func254.trans (congrArg some (by kernel_rfl))
  f276 := Tryz.func251.trans (congrArg some (by kernel_rfl))
  f277 := Tryz.func252.trans (congrArg some (by kernel_rfl))
  t0 := Tryz.underlying0
  a0 := Tryz.isAgg0
  z0 := Tryz.sizeOf0
  v0 := Tryz.zeroValue0
  t3 := Tryz.underlying3
  a3 := Tryz.isAgg3
  z3 := Tryz.sizeOf3
  v3 := Tryz.zeroValue3
  t4 := Tryz.underlying4
  a4 := Tryz.isAgg4
  z4 := Tryz.sizeOf4
  v4 := Tryz.zeroValue4
  t5 := Tryz.underlying5
  a5 := Tryz.isAgg5
  z5 := Tryz.sizeOf5
  v5 := Tryz.zeroValue5
  t9 := Tryz.underlying9
  a9 := Tryz.isAgg9
  z9 := Tryz.sizeOf9
  v9 := Tryz.zeroValue9
  t20 := Tryz.underlying20
  a20 := Tryz.isAgg20
  z20 := Tryz.sizeOf20
  v20 := Tryz.zeroValue20
  t37 := Tryz.underlying108
  a37 := Tryz.isAgg108
  z37 := Tryz.sizeOf108
  v37 := Tryz.zeroValue108
  t46 := Tryz.underlying248
  a46 := Tryz.isAgg248
  z46 := Tryz.sizeOf248
  v46 := Tryz.zeroValue248
  t51 := Tryz.underlying258
  a51 := Tryz.isAgg258
  z51 := Tryz.sizeOf258
  v51 := Tryz.zeroValue258
  t53 := Tryz.underlying234
  a53 := Tryz.isAgg234
  z53 := Tryz.sizeOf234
  v53 := Tryz.zeroValue234
  t70 := Tryz.underlying203
  a70 := Tryz.isAgg203
  z70 := Tryz.sizeOf203
  v70 := Tryz.zeroValue203
  t72 := Tryz.underlying205
  a72 := Tryz.isAgg205
  z72 := Tryz.sizeOf205
  v72 := Tryz.zeroValue205
  t75 := Tryz.underlying208
  a75 := Tryz.isAgg208
  z75 := Tryz.sizeOf208
  v75 := Tryz.zeroValue208
  t76 := Tryz.underlying209
  a76 := Tryz.isAgg209
  z76 := Tryz.sizeOf209
  v76 := Tryz.zeroValue209
  t109 := Tryz.underlying249
  a109 := Tryz.isAgg249
  z109 := Tryz.sizeOf249
  v109 := Tryz.zeroValue249
  t127 := Tryz.underlying244
  a127 := Tryz.isAgg244
  z127 := Tryz.sizeOf244
  v127 := Tryz.zeroValue244
  t146 := Tryz.underlying269
  a146 := Tryz.isAgg269
  z146 := Tryz.sizeOf269
  v146 := Tryz.zeroValue269
  t148 := Tryz.underlying271
  a148 := Tryz.isAgg271
  z148 := Tryz.sizeOf271
  v148 := Tryz.zeroValue271
  t164 := Tryz.underlying266
  a164 := Tryz.isAgg266
  z164 := Tryz.sizeOf266
  v164 := Tryz.zeroValue266

def Tryz.hasP_ren : Go.Shelf.Ren := ⟨fun | 99 => 206 | 206 => 237 | n => n, fun | 9 => 9 | 4 => 4 | 3 => 3 | n => n, fun | n => n⟩
theorem Tryz.hasP : Go.Proofs.Lays.n99 Tryz.prog Tryz.hasP_ren where
  mixed := by kernel_rfl
  f99 := Tryz.func206.trans (congrArg some (by kernel_rfl))
  f206 := Tryz.func237.trans (congrArg some (by kernel_rfl))
  t3 := Tryz.underlying3
  a3 := Tryz.isAgg3
  z3 := Tryz.sizeOf3
  v3 := Tryz.zeroValue3
  t4 := Tryz.underlying4
  a4 := Tryz.isAgg4
  z4 := Tryz.sizeOf4
  v4 := Tryz.zeroValue4
  t9 := Tryz.underlying9
  a9 := Tryz.isAgg9
  z9 := Tryz.sizeOf9
  v9 := Tryz.zeroValue9

def Tryz.cmpT_ren : Go.Shelf.Ren := ⟨fun | 106 => 190 | 213 => 228 | 265 => 255 | n => n, fun | 9 => 9 | 3 => 3 | n => n, fun | n => n⟩
theorem Tryz.cmpT : Go.Proofs.Lays.n106 Tryz.prog Tryz.cmpT_ren where
  mixed := by kernel_rfl
  f106 := Tryz.func190.trans (congrArg some (by kernel_rfl))
  f213 := Tryz.func228.trans (congrArg some (by kernel_rfl))
  f265 := Tryz.func255.trans (congrArg some (by kernel_rfl))
  t3 := Tryz.underlying3
  a3 := Tryz.isAgg3
  z3 := Tryz.sizeOf3
  v3 := Tryz.zeroValue3
  t9 := Tryz.underlying9
  a9 := Tryz.isAgg9
  z9 := Tryz.sizeOf9
  v9 := Tryz.zeroValue9

end Go.Proofs
namespace Go.Proofs.YtljjcffnomdhhaaGreatDoor
open Go Go.Fw Go.Proofs Go.Lib
set_option maxRecDepth 100000
theorem c_Repeat (s : List UInt8) (c : Nat) (h0 : 0 < s.length) (hl : s.length * c ≤ 140737488355328) (hc : c ≤ 9223372036854775807) : PCtr PP n_strings_Repeat [str s, i64 (c : Int)] (str (repeatL s c)) := by
  have X : Builder.Extra PP Tryz.repS_ren := ⟨⟨by kernel_rfl, by kernel_rfl⟩, Tryz.underlying5, Tryz.isAgg5, Tryz.sizeOf5, Tryz.zeroValue5, by kernel_rfl, by kernel_rfl, by kernel_rfl, by decide⟩
  refine ⟨fn_strings_Repeat.1, fun w G vs hG hr => ?_⟩
  obtain ⟨v1, us, rfl, h1, hr⟩ := relC' hr
  obtain ⟨v2, us, rfl, h2, hr⟩ := relC' hr
  cases hr
  cases h1
  cases h2
  have fin : Calls PP n_strings_Repeat #[.string (mkS s), .int .i64 c] w (fun e w' => e = .returned (.string (mkS (repeatL s c))) ∧ Go.RowKit.Below w.heap.size w w') := by
    rcases Nat.lt_or_ge c 2 with h | h
    · rcases (by omega : c = 0 ∨ c = 1) with rfl | rfl
      · exact (Any.strings_Repeat_zero Tryz.repS (mkS s) w).mono fun e w' ⟨he, hw⟩ => ⟨he, hw ▸ Go.RowKit.Below.refl _ _⟩
      · refine (Any.strings_Repeat_one Tryz.repS (mkS s) w).mono fun e w' ⟨he, hw⟩ => ⟨?_, hw ▸ Go.RowKit.Below.refl _ _⟩
        rw [he]; simp [repeatL]
    · exact Any.strings_Repeat_main Tryz.repS X (mkS s) c w h hc hl h0
  refine Calls.mono fin ?_
  rintro e w' ⟨rfl, hb⟩
  exact ⟨_, [], rfl, hb, List.nodup_nil, by simp, .sc rfl⟩
theorem c_HasPrefix (s p : List UInt8) : PCtr PP n_strings_HasPrefix [str s, str p] (boo (hasPrefix s p)) := by
  refine ⟨fn_strings_HasPrefix.1, fun w G vs hG hr => ?_⟩
  obtain ⟨v1, us, rfl, h1, hr⟩ := relC' hr
  obtain ⟨v2, us, rfl, h2, hr⟩ := relC' hr
  cases hr
  cases h1
  cases h2
  refine Calls.mono (Any.strings_HasPrefix Tryz.hasP (mkS s) (mkS p) w) ?_
  rintro e w' ⟨rfl, rfl⟩
  exact ⟨_, [], rfl, Go.RowKit.Below.refl _ _, List.nodup_nil, by simp, .sc rfl⟩
theorem c_CompareS (s p : List UInt8) : PCtr PP n_strings_Compare [str s, str p] (i64 (compareBytes s p)) := by
  refine ⟨fn_strings_Compare.1, fun w G vs hG hr => ?_⟩
  obtain ⟨v1, us, rfl, h1, hr⟩ := relC' hr
  obtain ⟨v2, us, rfl, h2, hr⟩ := relC' hr
  cases hr
  cases h1
  cases h2
  refine Calls.mono (Any.strings_Compare Tryz.cmpT (mkS s) (mkS p) w) ?_
  rintro e w' ⟨rfl, rfl⟩
  exact ⟨_, [], rfl, Go.RowKit.Below.refl _ _, List.nodup_nil, by simp, .sc rfl⟩
end Go.Proofs.YtljjcffnomdhhaaGreatDoor

/- Walks: changes as text. Plain theorems. -/
set_option linter.unusedVariables false
set_option linter.unusedSimpArgs false
namespace Go.Proofs.YtljjcffnomdhhaaGreatDoor
open Go Go.Fw
set_option maxRecDepth 100000
/-- A version's text. -/
def verT (v : Ver) : List UInt8 := Lib.itoa v.a ++ [46] ++ Lib.itoa v.b ++ [46] ++ Lib.itoa v.c
theorem verT_len {v : Ver} (h : verF v = 0) : (verT v).length ≤ 11 := by
  have h := verF_in h
  have la := itoa_len (n := v.a) (by omega) (by omega)
  have lb := itoa_len (n := v.b) (by omega) (by omega)
  have lc := itoa_len (n := v.c) (by omega) (by omega)
  simp [verT]; omega
theorem c_text (v : Ver) (hv : verF v = 0) : PCtr PP n_impl_Version_text [v.enc] (str (verT v)) := c_implText v hv
theorem c_specFormatVersion (v : Ver) (hv : verF v = 0) : PCtr PP n_spec_FormatVersion [v.enc] (str (verT v)) := by
  obtain ⟨Ω, hΩ⟩ : ∃ Ω, Ω = std := ⟨_, rfl⟩
  have htab := tab
  have hmo : PP.follows .mixedOrders = true := by kernel_rfl
  have hv' := verF_in hv
  have hD : ∀ n : Int, 0 ≤ n → n ≤ 999 → PCtr PP n_spec_l1Decimal [i64 n] (str (Lib.itoa n)) := fun n h0 h1 => by
    have := c_l1Decimal n.toNat (by omega)
    rw [Int.toNat_of_nonneg h0] at this
    rw [itoa_dec h0]; exact this
  have ha := hD v.a (by omega) (by omega)
  have hb := hD v.b (by omega) (by omega)
  have hc := hD v.c (by omega) (by omega)
  have la := itoa_len (n := v.a) (by omega) (by omega)
  have lb := itoa_len (n := v.b) (by omega) (by omega)
  have lc := itoa_len (n := v.c) (by omega) (by omega)
  have hf := c_specVersionFault v
  rw [hv] at hf
  clear hD
  unfold verT
  refine PCtr.walk tab hΩ fn_spec_FormatVersion rfl ?_
  obtain ⟨a, b, c⟩ := v
  dsimp only at *
  generalize Lib.itoa a = ra at *
  generalize Lib.itoa b = rb at *
  generalize Lib.itoa c = rc at *
  obtain ⟨r, hr⟩ : ∃ r, r = ra ++ [46] ++ rb ++ [46] ++ rc := ⟨_, rfl⟩
  have hcat : Ω.cat (Ω.cat (Ω.cat (Ω.cat ra [46]) rb) [46]) rc = r := by subst hΩ; exact hr.symm
  have l1 : (Ω.cat ra [46]).length ≤ 4 := by subst hΩ; show (ra ++ [46]).length ≤ 4; simp; omega
  have l2 : (Ω.cat (Ω.cat ra [46]) rb).length ≤ 7 := by subst hΩ; show (ra ++ [46] ++ rb).length ≤ 7; simp; omega
  have l3 : (Ω.cat (Ω.cat (Ω.cat ra [46]) rb) [46]).length ≤ 8 := by subst hΩ; show (ra ++ [46] ++ rb ++ [46]).length ≤ 8; simp; omega
  have o1 : ((ra.length + [(46 : UInt8)].length : Nat) : Int) ≤ 9223372036854775807 := by rw [List.length_singleton]; omega
  have o2 : (((Ω.cat ra [46]).length + rb.length : Nat) : Int) ≤ 9223372036854775807 := by omega
  have o3 : (((Ω.cat (Ω.cat ra [46]) rb).length + [(46 : UInt8)].length : Nat) : Int) ≤ 9223372036854775807 := by rw [List.length_singleton]; omega
  have o4 : (((Ω.cat (Ω.cat (Ω.cat ra [46]) rb) [46]).length + rc.length : Nat) : Int) ≤ 9223372036854775807 := by omega
  rw [← hr]
  generalize PP = P at *
  cbv
  refine call_pure hΩ 3 hf rfl (fits _) rfl rfl ?_
  cbv
  refine br (fun h => (ne_self hΩ h).elim) (fun h => ?_)
  cbv
  refine ⟨VC_drawn htab hΩ hmo (by kernel_rfl) ?_⟩
  cbv
  refine QCall_pure (k := 3) ha rfl (fits _) rfl ?_
  cbv
  refine ⟨⟨o1⟩, ?_⟩
  refine QCall_pure (k := 3) hb rfl (fits _) rfl ?_
  cbv
  refine ⟨⟨o2⟩, ⟨o3⟩, ?_⟩
  refine QCall_pure (k := 3) hc rfl (fits _) rfl ?_
  cbv
  refine ⟨⟨o4⟩, ?_⟩
  cbv
  exact .of (congrArg str hcat)
theorem c_joined (xs : List (List UInt8)) (hN : xs.length ≤ 140737488355328) (hlen : (Lib.join xs [32]).length ≤ 140737488355328) :
    PCtr PP n_impl_joined [.sl false 1 (xs.map str)] (str (Lib.join xs [32])) := by
  obtain ⟨Ω, hΩ⟩ : ∃ Ω, Ω = std := ⟨_, rfl⟩
  have hc := c_Join xs [32] hN hlen
  have htab := tab
  generalize Lib.join xs [32] = r at *
  generalize xs.map str = ys at *
  refine PCtr.walk tab hΩ fn_impl_joined rfl ?_
  generalize PP = P at *
  cbv
  refine call_pure hΩ 3 hc (mapO2 rfl rfl) (fits _) rfl rfl ?_
  cbv
  exact .of rfl
/-- A change that can be told. -/
def told (x : Chg) : Bool :=
  decide (nameF x.n = 0) && (decide (verF x.o = 0) && (decide (verF x.w = 0) && (if x.k = 1 then decide (x.o = Ver.zero) else if x.k = 2 then decide (x.w = Ver.zero) else decide (x.k = 3))))
theorem obC {a b : List UInt8} (h : a.length + b.length ≤ 1000000000) : ((a.length + b.length : Nat) : Int) ≤ 9223372036854775807 := by omega
theorem catL {Ω : Opq} (hΩ : Ω = std) {a b : List UInt8} : (Ω.cat a b).length = a.length + b.length := by subst hΩ; exact List.length_append
theorem nameF_len {n : List UInt8} (h : nameF n = 0) : n.length ≤ 12 := by
  unfold nameF at h
  split at h
  · cases h
  · split at h
    · cases h
    · omega
end Go.Proofs.YtljjcffnomdhhaaGreatDoor

/- Walks: lists of texts by a function value; words, lines. Plain theorems. -/
set_option linter.unusedVariables false
set_option linter.unusedSimpArgs false
namespace Go.Proofs.YtljjcffnomdhhaaGreatDoor
open Go Go.Fw
set_option maxRecDepth 100000
theorem seqT {Ω : Opq} (hΩ : Ω = std) {x y : List UInt8} (h : Ω.cmpS .eql x y = true) : x = y := by subst hΩ; exact of_decide_eq_true ((by simpa [cmpSS] using (show cmpSS .eql x y = true from h)))
theorem seqF {Ω : Opq} (hΩ : Ω = std) {x y : List UInt8} (h : Ω.cmpS .eql x y = false) : x ≠ y := by subst hΩ; exact fun e => by subst e; have h : cmpSS .eql x x = false := h; simp [cmpSS] at h
end Go.Proofs.YtljjcffnomdhhaaGreatDoor

/- Walks: numbers read from text. Plain theorems. -/
set_option linter.unusedVariables false
set_option linter.unusedSimpArgs false
namespace Go.Proofs.YtljjcffnomdhhaaGreatDoor
open Go Go.Fw
set_option maxRecDepth 100000
/-- Digits as a number; -1: there is another byte. -/
def numL : List UInt8 → Int → Int
  | [], n => n
  | c :: cs, n => if 48 ≤ c.toNat ∧ c.toNat ≤ 57 then numL cs (10 * n + ((c.toNat : Int) - 48)) else -1
/-- The number of 1 to m digits; -1: none. -/
def numM (m : Nat) (s : List UInt8) : Int := if s.length < 1 ∨ m < s.length then -1 else numL s 0
theorem numL_at {s : List UInt8} {i : Nat} {c : UInt8} {n : Int} (h : s[i]? = some c) : numL (s.drop i) n = if 48 ≤ c.toNat ∧ c.toNat ≤ 57 then numL (s.drop (i + 1)) (10 * n + ((c.toNat : Int) - 48)) else -1 := by
  obtain ⟨hi, rfl⟩ := List.getElem?_eq_some_iff.1 h
  rw [List.drop_eq_getElem_cons hi]; rfl
theorem stepN {Ω : Opq} (hΩ : Ω = std) {c : UInt8} {n : Int} (h1 : 48 ≤ c.toNat) (h2 : c.toNat ≤ 57) (h3 : 0 ≤ n) (h4 : n ≤ 1000000) : Ω.ar .add .i64 (Ω.ar .mul .i64 10 n) (Ω.wrap .i64 (Ω.ar .sub .u8 (Ω.u8 c) 48)) = 10 * n + ((c.toNat : Int) - 48) := by
  subst hΩ
  show IntKind.i64.wrap (IntKind.i64.wrap (10 * n) + IntKind.i64.wrap (IntKind.u8.wrap ((c.toNat : Int) - 48))) = _
  have e : IntKind.u8.wrap ((c.toNat : Int) - 48) = (c.toNat : Int) - 48 := by
    show ((c.toNat : Int) - 48) % 256 = _
    omega
  rw [e, wrap64 (x := 10 * n) (by omega) (by omega), wrap64 (x := (c.toNat : Int) - 48) (by omega) (by omega), wrap64 (by omega) (by omega)]
theorem stepN2 {Ω : Opq} (hΩ : Ω = std) {c : UInt8} {n : Int} (h1 : 48 ≤ c.toNat) (h2 : c.toNat ≤ 57) (h3 : 0 ≤ n) (h4 : n ≤ 1000000) : Ω.ar .add .i64 (Ω.ar .mul .i64 n 10) (Ω.wrap .i64 (Ω.ar .sub .u8 (Ω.u8 c) 48)) = 10 * n + ((c.toNat : Int) - 48) := by
  rw [← stepN hΩ h1 h2 h3 h4]
  subst hΩ
  show IntKind.i64.wrap (IntKind.i64.wrap (n * 10) + _) = IntKind.i64.wrap (IntKind.i64.wrap (10 * n) + _)
  rw [Int.mul_comm]
theorem u8I {Ω : Opq} (hΩ : Ω = std) (c : UInt8) : Ω.u8 c = (c.toNat : Int) := by subst hΩ; rfl
theorem c_numberM (m : Nat) (hm6 : m ≤ 6) (s : List UInt8) (hs : s.length ≤ 1048576) : PCtr PP n_impl_number [str s, i64 (m : Int)] (i64 (numM m s)) := by
  obtain ⟨Ω, hΩ⟩ : ∃ Ω, Ω = std := ⟨_, rfl⟩
  obtain ⟨r, hr⟩ : ∃ r, r = numM m s := ⟨_, rfl⟩
  rw [← hr]
  unfold numM at hr
  obtain ⟨n, hn⟩ : ∃ n, n = s.length := ⟨_, rfl⟩
  have htab := tab
  refine PCtr.walk tab hΩ fn_impl_number rfl ?_
  generalize PP = P at *
  cbv
  have none : n < 1 ∨ m < n → r = -1 := fun h => by rw [hr, if_pos (by omega)]
  have go : ¬ (n < 1 ∨ m < n) → r = numL s 0 := fun h => by rw [hr, if_neg (by omega)]
  refine br (fun h => ?_) (fun h => ?_) <;> cbv
  · have h := seqT hΩ h
    exact .of (congrArg i64 (none (.inl (by rw [hn, h]; exact Nat.zero_lt_one))).symm)
  have h0 := seqF hΩ h
  have h0 : 0 < n := by rw [hn]; exact List.length_pos_iff.2 h0
  refine br (fun h => ?_) (fun h => ?_) <;> cbv
  · have h : m < n := by have h := gtZt hΩ (iteB hΩ h); subst hΩ; have h : (m : Int) < (s.length : Int) := h; omega
    exact .of (congrArg i64 (none (.inr (by omega))).symm)
  have h3 : n ≤ m := by have h := gtZf hΩ (iteB hΩ h); subst hΩ; have h : (s.length : Int) ≤ (m : Int) := h; omega
  have hrl := go (by omega)
  clear go none hr
  refine loopX htab hΩ (fun i : Nat × Int => ⟨[(0, str s), (5, i64 i.2), (16, i64 (Ω.int (Ω.lenS s))), (17, i64 (Ω.int i.1))], 40, []⟩)
    (fun i => i.1 ≤ n ∧ (0 ≤ i.2 ∧ i.2 ≤ 999999 ∧ (i.1 ≤ 5 → i.2 ≤ 99999) ∧ (i.1 ≤ 4 → i.2 ≤ 9999) ∧ (i.1 ≤ 3 → i.2 ≤ 999) ∧ (i.1 ≤ 2 → i.2 ≤ 99) ∧ (i.1 ≤ 1 → i.2 ≤ 9) ∧ (i.1 ≤ 0 → i.2 ≤ 0)) ∧ r = numL (s.drop i.1) i.2) (fun i => n - i.1) (0, 0)
    ⟨Nat.zero_le _, ⟨Int.le_refl _, by decide, fun _ => by decide, fun _ => by decide, fun _ => by decide, fun _ => by decide, fun _ => by decide, fun _ => Int.le_refl _⟩, hrl⟩ (Sbs.mk rfl rfl ⟨rfl, rfl, rfl, zeroI hΩ, trivial⟩) ?_
  rintro ⟨i, v⟩ ⟨hi, ⟨v0, v1, v2, v3, v4, v5, v6, v7⟩, hv⟩
  dsimp only at hi v0 v1 v2 v3 v4 v5 v6 v7 hv ⊢
  cbv
  refine br (fun h => ?_) (fun h => ?_) <;> cbv
  · have h : i < n := by have h := ltZt hΩ h; subst hΩ; have h : (i : Int) < (s.length : Int) := h; omega
    obtain ⟨c, hc⟩ := at_of (cs := s) (by omega : i < _)
    have hci : s[(Ω.int i).toNat]? = some c := by subst hΩ; exact hc
    rw [numL_at hc] at hv
    have hst := stepN hΩ (c := c) (n := v)
    refine ⟨⟨nnI hΩ⟩, c, hci, ?_⟩
    cbv
    refine br (fun k => ?_) (fun k => ?_)
    · have k : (c.toNat : Int) < 48 := by have k := ltZt hΩ k; subst hΩ; exact k
      rw [if_neg (by omega)] at hv
      cbv
      exact .of (congrArg i64 hv.symm)
    have k1 : (48 : Int) ≤ c.toNat := by have k := ltZf hΩ k; subst hΩ; exact k
    have k1 : 48 ≤ c.toNat := by omega
    cbv
    refine ⟨⟨nnI hΩ⟩, c, hci, ?_⟩
    cbv
    refine br (fun k => ?_) (fun k => ?_)
    · have k : (57 : Int) < c.toNat := by have k := gtZt hΩ (iteB hΩ k); subst hΩ; exact k
      rw [if_neg (by omega)] at hv
      cbv
      exact .of (congrArg i64 hv.symm)
    have k2 : (c.toNat : Int) ≤ 57 := by have k := gtZf hΩ (iteB hΩ k); subst hΩ; exact k
    have k2 : c.toNat ≤ 57 := by omega
    rw [if_pos (by omega)] at hv
    cbv
    refine ⟨⟨nnI hΩ⟩, c, hci, ?_⟩
    cbv
    obtain ⟨d, hd⟩ : ∃ d : Int, d = c.toNat - 48 := ⟨_, rfl⟩
    rw [← hd] at hv hst
    exact ⟨(i + 1, 10 * v + d), ⟨by show i + 1 ≤ n; omega, by show 0 ≤ 10 * v + d ∧ 10 * v + d ≤ 999999 ∧ (i + 1 ≤ 5 → 10 * v + d ≤ 99999) ∧ (i + 1 ≤ 4 → 10 * v + d ≤ 9999) ∧ (i + 1 ≤ 3 → 10 * v + d ≤ 999) ∧ (i + 1 ≤ 2 → 10 * v + d ≤ 99) ∧ (i + 1 ≤ 1 → 10 * v + d ≤ 9) ∧ (i + 1 ≤ 0 → 10 * v + d ≤ 0); omega, hv⟩, by show n - (i + 1) < n - i; omega,
      Sbs.mk rfl rfl ⟨rfl, congrArg i64 (hst (by omega) (by omega) (by omega) (by omega)), rfl, incI hΩ (by omega), trivial⟩⟩
  · have h : n ≤ i := by have h := ltZf hΩ h; subst hΩ; have h : (s.length : Int) ≤ (i : Int) := h; omega
    rw [List.drop_of_length_le (by omega)] at hv
    exact .of (congrArg i64 hv.symm)
/-- The reference's answer. -/
def numRM (m : Nat) (s : List UInt8) : A := .tup [i64 (if numM m s < 0 then 0 else numM m s), boo (decide (0 ≤ numM m s))]
theorem c_l1NumberM (m : Nat) (hm6 : m ≤ 6) (s : List UInt8) (hs : s.length ≤ 1048576) : PCtr PP n_spec_l1Number [str s, i64 (m : Int)] (numRM m s) := by
  obtain ⟨Ω, hΩ⟩ : ∃ Ω, Ω = std := ⟨_, rfl⟩
  obtain ⟨r, hr⟩ : ∃ r, r = numM m s := ⟨_, rfl⟩
  obtain ⟨R, hR⟩ : ∃ R, R = numRM m s := ⟨_, rfl⟩
  rw [← hR]
  unfold numRM at hR
  rw [← hr] at hR
  have bad : r = -1 → A.tup [i64 0, boo false] = R := fun h => by rw [hR, h]; rfl
  have good : 0 ≤ r → A.tup [i64 r, boo true] = R := fun h => by rw [hR, if_neg (by omega), decide_eq_true h]
  clear hR
  unfold numM at hr
  obtain ⟨n, hn⟩ : ∃ n, n = s.length := ⟨_, rfl⟩
  have hdg := c_l1Digit
  have htab := tab
  refine PCtr.walk tab hΩ fn_spec_l1Number rfl ?_
  generalize PP = P at *
  cbv
  have none : n < 1 ∨ m < n → r = -1 := fun h => by rw [hr, if_pos (by omega)]
  have go : ¬ (n < 1 ∨ m < n) → r = numL s 0 := fun h => by rw [hr, if_neg (by omega)]
  refine br (fun h => ?_) (fun h => ?_) <;> cbv
  · have h : n < 1 := by have h := ltZt hΩ h; subst hΩ; have h : (s.length : Int) < 1 := h; omega
    exact .of (bad (none (.inl h)))
  have h0 : 0 < n := by have h := ltZf hΩ h; subst hΩ; have h : (1 : Int) ≤ (s.length : Int) := h; omega
  refine br (fun h => ?_) (fun h => ?_) <;> cbv
  · have h : m < n := by have h := gtZt hΩ (iteB hΩ h); subst hΩ; have h : (m : Int) < (s.length : Int) := h; omega
    exact .of (bad (none (.inr h)))
  have h3 : n ≤ m := by have h := gtZf hΩ (iteB hΩ h); subst hΩ; have h : (s.length : Int) ≤ (m : Int) := h; omega
  have hrl := go (by omega)
  clear go none hr
  refine loopX htab hΩ (fun i : Nat × Int => ⟨[(0, str s), (6, i64 i.2), (7, i64 (Ω.int i.1))], 37, []⟩)
    (fun i => i.1 ≤ n ∧ (0 ≤ i.2 ∧ i.2 ≤ 999999 ∧ (i.1 ≤ 5 → i.2 ≤ 99999) ∧ (i.1 ≤ 4 → i.2 ≤ 9999) ∧ (i.1 ≤ 3 → i.2 ≤ 999) ∧ (i.1 ≤ 2 → i.2 ≤ 99) ∧ (i.1 ≤ 1 → i.2 ≤ 9) ∧ (i.1 ≤ 0 → i.2 ≤ 0)) ∧ r = numL (s.drop i.1) i.2) (fun i => n - i.1) (0, 0)
    ⟨Nat.zero_le _, ⟨Int.le_refl _, by decide, fun _ => by decide, fun _ => by decide, fun _ => by decide, fun _ => by decide, fun _ => by decide, fun _ => Int.le_refl _⟩, hrl⟩ (Sbs.mk rfl rfl ⟨rfl, rfl, zeroI hΩ, trivial⟩) ?_
  rintro ⟨i, v⟩ ⟨hi, ⟨v0, v1, v2, v3, v4, v5, v6, v7⟩, hv⟩
  dsimp only at hi v0 v1 v2 v3 v4 v5 v6 v7 hv ⊢
  cbv
  refine br (fun h => ?_) (fun h => ?_) <;> cbv
  · have h : i < n := by have h := ltZt hΩ h; subst hΩ; have h : (i : Int) < (s.length : Int) := h; omega
    obtain ⟨c, hc⟩ := at_of (cs := s) (by omega : i < _)
    have hci : s[(Ω.int i).toNat]? = some c := by subst hΩ; exact hc
    rw [numL_at hc] at hv
    have hst := stepN2 hΩ (c := c) (n := v)
    have hfit : [A.sc (.int .u8 (Ω.u8 c))] = [u8 c] := congrArg (fun z => [A.sc (.int .u8 z)]) (u8I hΩ c)
    have hdc := hdg c
    have hdB : digitB c = true → 48 ≤ c.toNat ∧ c.toNat ≤ 57 := fun h => by simp only [digitB, Bool.and_eq_true, decide_eq_true_eq] at h; omega
    have hdF : digitB c = false → ¬ (48 ≤ c.toNat ∧ c.toNat ≤ 57) := fun h => by simp only [digitB, Bool.and_eq_false_iff, decide_eq_false_iff_not] at h; omega
    generalize digitB c = dg at *
    refine ⟨⟨nnI hΩ⟩, c, hci, ?_⟩
    cbv
    refine call_pure hΩ 3 hdc rfl (fitsE hfit) rfl rfl ?_
    cbv
    refine br (fun k => ?_) (fun k => ?_) <;> cbv
    · rw [if_neg (hdF (notT' hΩ k))] at hv
      exact .of (bad hv)
    have k := hdB (notF' hΩ k)
    rw [if_pos k] at hv
    refine ⟨⟨nnI hΩ⟩, c, hci, ?_⟩
    cbv
    obtain ⟨d, hd⟩ : ∃ d : Int, d = c.toNat - 48 := ⟨_, rfl⟩
    rw [← hd] at hv hst
    exact ⟨(i + 1, 10 * v + d), ⟨by show i + 1 ≤ n; omega, by show 0 ≤ 10 * v + d ∧ 10 * v + d ≤ 999999 ∧ (i + 1 ≤ 5 → 10 * v + d ≤ 99999) ∧ (i + 1 ≤ 4 → 10 * v + d ≤ 9999) ∧ (i + 1 ≤ 3 → 10 * v + d ≤ 999) ∧ (i + 1 ≤ 2 → 10 * v + d ≤ 99) ∧ (i + 1 ≤ 1 → 10 * v + d ≤ 9) ∧ (i + 1 ≤ 0 → 10 * v + d ≤ 0); omega, hv⟩, by show n - (i + 1) < n - i; omega,
      Sbs.mk rfl rfl ⟨rfl, congrArg i64 (hst (by omega) (by omega) (by omega) (by omega)), incI hΩ (by omega), trivial⟩⟩
  · have h : n ≤ i := by have h := ltZf hΩ h; subst hΩ; have h : (s.length : Int) ≤ (i : Int) := h; omega
    rw [List.drop_of_length_le (by omega)] at hv
    have hv : r = v := hv
    exact .of (by have := good (by omega); rw [hv] at this; exact this)
end Go.Proofs.YtljjcffnomdhhaaGreatDoor

/- Numbers written with so many digits. Plain theorems, no program. -/
set_option linter.unusedVariables false
set_option linter.unusedSimpArgs false
namespace Go.Proofs.YtljjcffnomdhhaaGreatDoor
open Go Go.Fw
/-- k digits of a number. -/
def digs : Nat → Nat → List UInt8
  | 0, _ => []
  | k + 1, n => digs k (n / 10) ++ [UInt8.ofNat (48 + n % 10)]
theorem digs_len : ∀ (k n : Nat), (digs k n).length = k
  | 0, _ => rfl
  | k + 1, n => by simp [digs, digs_len k]
theorem dec_lead : ∀ (k a n : Nat), 1 ≤ a → a < 10 → n < 10 ^ k → Lib.decDigits (a * 10 ^ k + n) = UInt8.ofNat (48 + a) :: digs k n
  | 0, a, n, h1, h2, h3 => by
    obtain rfl : n = 0 := by simpa using h3
    simp [digs, decD_small h2]
  | k + 1, a, n, h1, h2, h3 => by
    have hp : 1 ≤ 10 ^ k := Nat.one_le_pow _ _ (by decide)
    have e : a * 10 ^ (k + 1) = 10 * (a * 10 ^ k) := by rw [Nat.pow_succ]; rw [Nat.mul_comm (10 ^ k) 10, ← Nat.mul_assoc, Nat.mul_comm a 10, Nat.mul_assoc]
    have hle : 1 ≤ a * 10 ^ k := Nat.mul_pos h1 hp
    have hd : (a * 10 ^ (k + 1) + n) / 10 = a * 10 ^ k + n / 10 := by rw [e]; omega
    have hm : (a * 10 ^ (k + 1) + n) % 10 = n % 10 := by rw [e]; omega
    rw [decD_big (by rw [e]; omega), hd, hm, dec_lead k a (n / 10) h1 h2 (by rw [Nat.pow_succ] at h3; omega)]
    rfl
theorem rep_snoc (s : List UInt8) : ∀ c : Nat, Lib.repeatL s (c + 1) = Lib.repeatL s c ++ s
  | 0 => by simp [Lib.repeatL]
  | c + 1 => by
    show s ++ Lib.repeatL s (c + 1) = (s ++ Lib.repeatL s c) ++ s
    rw [rep_snoc s c, List.append_assoc]
theorem digs_zero : ∀ k : Nat, digs k 0 = Lib.repeatL [48] k
  | 0 => rfl
  | k + 1 => by rw [digs, rep_snoc, Nat.zero_div, digs_zero k]; rfl
theorem pad_digs : ∀ (k n : Nat), n < 10 ^ (k + 1) → Lib.repeatL [48] (k + 1 - (Lib.decDigits n).length) ++ Lib.decDigits n = digs (k + 1) n
  | k, n, h => by
    rcases Nat.lt_or_ge n 10 with h1 | h1
    · rw [decD_small h1, digs, show n / 10 = 0 by omega, digs_zero, show n % 10 = n by omega]
      rfl
    · cases k with
      | zero => simp at h; omega
      | succ k =>
        have ih := pad_digs k (n / 10) (by rw [Nat.pow_succ] at h; omega)
        rw [decD_big h1, digs, ← ih, List.length_append, List.length_singleton, List.append_assoc]
        congr 2
        omega
/-- Digits that are read, written again. -/
theorem digs_numL : ∀ (s : List UInt8) (k a : Nat), 0 ≤ numL s (a : Int) → ∃ m : Nat, numL s (a : Int) = m ∧ digs (k + s.length) m = digs k a ++ s ∧ m < (a + 1) * 10 ^ s.length
  | [], k, a, h => ⟨a, rfl, by simp, by simp⟩
  | c :: cs, k, a, h => by
    unfold numL at h ⊢
    split at h
    · rename_i hc
      rw [if_pos hc]
      have e : (10 * (a : Int) + ((c.toNat : Int) - 48)) = ((10 * a + (c.toNat - 48) : Nat) : Int) := by omega
      rw [e] at h ⊢
      obtain ⟨m, h1, h2, h3⟩ := digs_numL cs (k + 1) (10 * a + (c.toNat - 48)) h
      refine ⟨m, h1, ?_, ?_⟩
      · rw [List.length_cons, show k + (cs.length + 1) = k + 1 + cs.length by omega, h2, digs, List.append_assoc]
        have e1 : (10 * a + (c.toNat - 48)) / 10 = a := by omega
        have e2 : (10 * a + (c.toNat - 48)) % 10 = c.toNat - 48 := by omega
        have e3 : UInt8.ofNat (48 + (c.toNat - 48)) = c := by rw [show 48 + (c.toNat - 48) = c.toNat by omega]; simp
        rw [e1, e2, e3]; rfl
      · rw [List.length_cons, Nat.pow_succ]
        refine Nat.lt_of_lt_of_le h3 ?_
        have : (10 * a + (c.toNat - 48) + 1) ≤ (a + 1) * 10 := by omega
        calc (10 * a + (c.toNat - 48) + 1) * 10 ^ cs.length ≤ ((a + 1) * 10) * 10 ^ cs.length := Nat.mul_le_mul_right _ this
          _ = (a + 1) * (10 ^ cs.length * 10) := by rw [Nat.mul_assoc, Nat.mul_comm 10]
    · rw [if_neg ‹_›] at *
      exact absurd h (by decide)
end Go.Proofs.YtljjcffnomdhhaaGreatDoor

/- Walks: the path of a number. Plain theorems. -/
set_option linter.unusedVariables false
set_option linter.unusedSimpArgs false
namespace Go.Proofs.YtljjcffnomdhhaaGreatDoor
open Go Go.Fw
set_option maxRecDepth 100000
def genH : List UInt8 := [103, 101, 110, 47]
/-- The path of a number: six digits behind a head. -/
def genB (n : Int) : List UInt8 := genH ++ digs 6 n.toNat
theorem c_genPath (n : Int) (h0 : 1 ≤ n) (h1 : n ≤ 999999) : PCtr PP n_impl_genPath [i64 n] (str (genB n)) := by
  obtain ⟨Ω, hΩ⟩ : ∃ Ω, Ω = std := ⟨_, rfl⟩
  have hd := c_dec n (by omega) (by omega)
  obtain ⟨m, rfl⟩ : ∃ m : Nat, n = (m : Int) := ⟨n.toNat, by omega⟩
  have hm1 : m ≤ 999999 := by omega
  obtain ⟨t, ht⟩ : ∃ t, t = Lib.itoa (m : Int) := ⟨_, rfl⟩
  have ht2 : t = Lib.decDigits m := by rw [ht, itoa_dec (by omega)]; rfl
  have htl : t.length ≤ 6 := by rw [ht2]; exact decD_len 5 m (by omega)
  rw [← ht] at hd
  have hr := c_Repeat [48] (6 - t.length) (by decide) (by simp; omega) (by omega)
  have hg : genB (m : Int) = genH ++ (Lib.repeatL [48] (6 - t.length) ++ t) := by
    unfold genB
    rw [ht2, pad_digs 5 m (by omega)]; rfl
  rw [hg]
  have hsub : Ω.ar .sub .i64 6 (Ω.int (Ω.lenS t)) = ((6 - t.length : Nat) : Int) := by
    subst hΩ
    show IntKind.i64.wrap (6 - (t.length : Int)) = _
    rw [wrap64 (by omega) (by omega)]; omega
  have hzl : (Lib.repeatL [48] (6 - t.length)).length ≤ 6 := by
    have h := congrArg List.length (pad_digs 5 m (by omega))
    rw [digs_len, List.length_append] at h
    have h : (Lib.repeatL [48] (6 - (Lib.decDigits m).length)).length + (Lib.decDigits m).length = 6 := h
    rw [ht2]; omega
  generalize Lib.repeatL [48] (6 - t.length) = z at *
  rw [← hsub] at hr
  clear hsub
  generalize (m : Int) = n at *
  unfold genH
  clear ht ht2 hm1 hg
  have hcat : Ω.cat (Ω.cat [103, 101, 110, 47] z) t = [103, 101, 110, 47] ++ (z ++ t) := by subst hΩ; exact List.append_assoc _ _ _
  generalize [103, 101, 110, 47] ++ (z ++ t) = r at *
  have htab := tab
  have hmo := hmo
  refine PCtr.walk tab hΩ fn_impl_genPath rfl ?_
  generalize PP = P at *
  cbv
  refine call_pure hΩ 3 hd rfl (fits _) rfl rfl ?_
  cbv
  refine call_pure hΩ 3 hr rfl (fits _) rfl rfl ?_
  cbv
  exact ⟨⟨by show ((4 + z.length : Nat) : Int) ≤ _; omega⟩, ⟨by subst hΩ; show ((([103, 101, 110, 47] ++ z).length + t.length : Nat) : Int) ≤ _; rw [List.length_append]; show ((4 + z.length + t.length : Nat) : Int) ≤ _; omega⟩, .of (congrArg str hcat)⟩
theorem c_GenPath (n : Int) (h0 : 1 ≤ n) (h1 : n ≤ 999999) : PCtr PP n_spec_GenPath [i64 n] (str (genB n)) := by
  obtain ⟨Ω, hΩ⟩ : ∃ Ω, Ω = std := ⟨_, rfl⟩
  obtain ⟨m, rfl⟩ : ∃ m : Nat, n = (m : Int) := ⟨n.toNat, by omega⟩
  have hd := c_l1Decimal (1000000 + m) (by omega)
  have he : Lib.decDigits (1000000 + m) = UInt8.ofNat (48 + 1) :: digs 6 m := dec_lead 6 1 m (by omega) (by omega) (by omega)
  rw [he] at hd
  have hg : genB (m : Int) = genH ++ digs 6 m := rfl
  rw [hg]
  have hsum : Ω.ar .add .i64 1000000 (m : Int) = ((1000000 + m : Nat) : Int) := by
    subst hΩ
    show IntKind.i64.wrap (1000000 + (m : Int)) = _
    rw [wrap64 (by omega) (by omega)]; omega
  rw [← hsum] at hd
  have hin := c_l1In (m : Int) 1 999999
  have hint : inB (m : Int) 1 999999 = true := by unfold inB; simp; omega
  rw [hint] at hin
  have hzl : (digs 6 m).length = 6 := digs_len 6 m
  generalize digs 6 m = z at *
  clear hsum he hint hg
  generalize (m : Int) = n at *
  unfold genH
  have hsg : ∀ q : UInt8, Ω.segS (Ω.nat 1) (Ω.lenS (q :: z)) (q :: z) = z := fun q => by subst hΩ; show ((q :: z).take (z.length + 1)).drop 1 = z; simp
  have hls : ∀ q : UInt8, Ω.lenS (q :: z) = z.length + 1 := fun q => by subst hΩ; rfl
  have hcat : Ω.cat [103, 101, 110, 47] z = [103, 101, 110, 47] ++ z := by subst hΩ; rfl
  generalize UInt8.ofNat (48 + 1) = q at *
  have hsg := hsg q
  have hls := hls q
  obtain ⟨y, hy⟩ : ∃ y, y = q :: z := ⟨_, rfl⟩
  rw [← hy] at hd hsg hls
  generalize [103, 101, 110, 47] ++ z = r at *
  have htab := tab
  have hmo := hmo
  refine PCtr.walk tab hΩ fn_spec_GenPath rfl ?_
  generalize PP = P at *
  cbv
  refine call_pure hΩ 3 hin rfl (fits _) rfl rfl ?_
  cbv
  refine br (fun h => (notT hΩ h).elim) (fun h => ?_)
  cbv
  refine call_pure hΩ 3 hd rfl (fits _) rfl rfl ?_
  cbv
  have hyl : y.length = z.length + 1 := by rw [hy]; rfl
  exact ⟨⟨by decide, trivial, by show Ω.nat 1 ≤ Ω.lenS y; rw [hls]; subst hΩ; show 1 ≤ _; omega, by show Ω.lenS y ≤ y.length; rw [hls, hyl]; exact Nat.le_refl _⟩,
    ⟨by show ((4 + (Ω.segS (Ω.nat 1) (Ω.lenS y) y).length : Nat) : Int) ≤ _; rw [hsg]; omega⟩, .of (congrArg str (by show Ω.cat [103, 101, 110, 47] (Ω.segS (Ω.nat 1) (Ω.lenS y) y) = r; rw [hsg, hcat]))⟩
end Go.Proofs.YtljjcffnomdhhaaGreatDoor

/- Disks: files and how they lie in cells. Plain definitions. -/
set_option linter.unusedVariables false
set_option linter.unusedSimpArgs false
namespace Go.Proofs.YtljjcffnomdhhaaGreatDoor
open Go Go.Fw
/-- A file: its path, its bytes. -/
structure Fil where
  p : List UInt8
  d : List UInt8
  deriving DecidableEq
/-- A disk. -/
structure Dsk where
  f : List Fil
  bg : Int
  wr : Int
  st : Int
  dn : Bool
/-- A file in cells; o: its bytes are held alone. -/
def Fil.enc (o : Bool) (x : Fil) : A := .agg [str x.p, .sl o 1 (x.d.map byteA)]
/-- A disk in cells; q: its files are held alone. -/
def Dsk.enc (q o : Bool) (x : Dsk) : A := .agg [.sl q 2 (x.f.map (Fil.enc o)), i64 x.bg, i64 x.wr, i64 x.st, boo x.dn]
theorem frz_bytes (l : List UInt8) : (l.map byteA).map frz = l.map byteA := by
  rw [List.map_map]; exact List.map_congr_left fun c _ => rfl
theorem frz_Fil (x : Fil) : frz (x.enc true) = x.enc false := by
  unfold Fil.enc
  rw [frz_agg]
  simp only [List.map_cons, List.map_nil, frz_sl, frz_bytes]; rfl
theorem frz_Fils (l : List Fil) : (l.map (Fil.enc true)).map frz = l.map (Fil.enc false) := by
  rw [List.map_map]; exact List.map_congr_left fun c _ => frz_Fil c
/-- A byte of a path. -/
def pathB (c : UInt8) : Bool := nameB c || (decide ((c.toNat : Int) = 46) || (decide ((c.toNat : Int) = 45) || decide ((c.toNat : Int) = 47)))
def leB (a b : List UInt8) : Bool := Op.bytesLess a b || a == b
def pathF (p : List UInt8) : Int := if p.length < 1 ∨ 40 < p.length then 5 else allCode pathB 5 p
/-- How many bytes files have. -/
def totL (l : List Fil) : Nat := (l.map fun f => f.d.length).sum
theorem totL_at {l : List Fil} {i : Nat} {f : Fil} (h : l[i]? = some f) : totL (l.take (i + 1)) = totL (l.take i) + f.d.length := by
  unfold totL
  rw [List.take_add_one, h]
  simp
/-- What is wrong with files, one behind the other. -/
def filsF : Option (List UInt8) → List Fil → Int
  | _, [] => 0
  | q, f :: fs => if pathF f.p ≠ 0 then pathF f.p else if q.any (leB f.p) then 1 else if 4000 < f.d.length then 2 else filsF (some f.p) fs
/-- What is wrong with a disk. -/
def dskF (x : Dsk) : Int :=
  if (inB x.bg 0 20000 && (inB x.wr 0 1000000000 && inB x.st (-1) 1000000000)) = false then 3
  else if 120 < x.f.length then 2
  else if filsF none x.f ≠ 0 then filsF none x.f
  else if x.bg < (totL x.f : Int) then 8 else 0
def prevP (l : List Fil) (i : Nat) : Option (List UInt8) := if i = 0 then none else (l[i - 1]?).map Fil.p
theorem filsF_at {l : List Fil} {i : Nat} {f : Fil} (h : l[i]? = some f) : filsF (prevP l i) (l.drop i) = if pathF f.p ≠ 0 then pathF f.p else if (prevP l i).any (leB f.p) then 1 else if 4000 < f.d.length then 2 else filsF (prevP l (i + 1)) (l.drop (i + 1)) := by
  obtain ⟨hi, rfl⟩ := List.getElem?_eq_some_iff.1 h
  rw [List.drop_eq_getElem_cons hi]
  have e : prevP l (i + 1) = some l[i].p := by unfold prevP; rw [if_neg (by omega), Nat.add_sub_cancel, List.getElem?_eq_getElem hi]; rfl
  rw [e]; rfl
end Go.Proofs.YtljjcffnomdhhaaGreatDoor

/- Walks: paths. Plain theorems. -/
set_option linter.unusedVariables false
set_option linter.unusedSimpArgs false
namespace Go.Proofs.YtljjcffnomdhhaaGreatDoor
open Go Go.Fw
set_option maxRecDepth 100000
theorem c_l7Byte (c : UInt8) : PCtr PP n_spec_l7Byte [u8 c] (boo (pathB c)) := by
  obtain ⟨Ω, hΩ⟩ : ∃ Ω, Ω = std := ⟨_, rfl⟩
  obtain ⟨r, hr⟩ : ∃ r, r = pathB c := ⟨_, rfl⟩
  rw [← hr]
  have hc0 := c_l1Name c
  unfold pathB at hr
  unfold u8 at *
  generalize (c.toNat : Int) = n at *
  generalize nameB c = b1 at *
  have htab := tab
  have hmo := hmo
  refine PCtr.walk tab hΩ fn_spec_l7Byte rfl ?_
  generalize PP = P at *
  cbv
  refine call_pure hΩ 3 hc0 rfl (fits _) rfl rfl ?_
  cbv
  repeat' (first | (refine br (fun h => ?_) (fun h => ?_) <;> cbv) | (refine ⟨VC_drawn htab hΩ hmo (by kernel_rfl) ?_⟩; cbv))
  all_goals (refine .of (congrArg boo ?_); subst hΩ; subst hr; clear hc0 htab hmo; cases b1 <;> simp_all <;> rw [Bool.eq_iff_iff] <;> simp)
theorem c_specPathFault (s : List UInt8) : PCtr PP n_spec_PathFault [str s] (i64 (pathF s)) := by
  obtain ⟨Ω, hΩ⟩ : ∃ Ω, Ω = std := ⟨_, rfl⟩
  obtain ⟨r, hr⟩ : ∃ r, r = pathF s := ⟨_, rfl⟩
  rw [← hr]
  have hc : ∀ c, PCtr PP n_spec_l7Byte [.sc (.int .u8 (Ω.u8 c))] (boo (pathB c)) := by subst hΩ; exact c_l7Byte
  unfold pathF at hr
  generalize pathB = F at *
  have htab := tab
  have hmo := hmo
  refine PCtr.walk tab hΩ fn_spec_PathFault rfl ?_
  generalize PP = P at *
  cbv
  have hb1 : Ω.cmp .lss (Ω.int (Ω.lenS s)) 1 = true → r = 5 := fun h => by
    have h := ltZt hΩ h
    subst hΩ
    have h : (s.length : Int) < 1 := h
    rw [hr, if_pos (.inl (by omega))]
  have hb2 : Ω.cmp .gtr (Ω.int (Ω.lenS s)) 40 = true → r = 5 := fun h => by
    have h := gtZt hΩ h
    subst hΩ
    have h : 40 < (s.length : Int) := h
    rw [hr, if_pos (.inr (by omega))]
  have hok : Ω.cmp .lss (Ω.int (Ω.lenS s)) 1 = false → Ω.cmp .gtr (Ω.int (Ω.lenS s)) 40 = false → r = allCode F 5 s ∧ s.length ≤ 40 := fun h g => by
    have h := ltZf hΩ h
    have g := gtZf hΩ g
    subst hΩ
    have h : 1 ≤ (s.length : Int) := h
    have g : (s.length : Int) ≤ 40 := g
    rw [hr, if_neg (by omega)]
    exact ⟨rfl, by omega⟩
  clear hr
  refine br (fun h1 => ?_) (fun h1 => ?_) <;> cbv
  · exact .of (congrArg i64 (hb1 h1).symm)
  · refine br (fun h2 => ?_) (fun h2 => ?_) <;> cbv
    · exact .of (congrArg i64 (hb2 (iteB hΩ h2)).symm)
    · obtain ⟨he0, hn40⟩ := hok h1 (iteB hΩ h2)
      refine loopX htab hΩ (fun i : Nat => ⟨[(0, .sc (.string (mkS s))), (3, .sc (.int .i64 (Ω.int i)))], 23, []⟩) (fun i => i ≤ s.length ∧ r = allCode F 5 (s.drop i)) (fun i => s.length - i) 0
        ⟨Nat.zero_le _, he0⟩ (Sbs.mk rfl rfl ⟨rfl, zeroI hΩ, trivial⟩) ?_
      rintro i ⟨hi, he⟩
      cbv
      refine br (fun h => ?_) (fun h => ?_) <;> cbv
      · replace h := ltS hΩ h
        obtain ⟨c, hcc⟩ := at_of (cs := s) h
        rw [allCode_at _ _ hcc] at he
        refine ⟨⟨nnI hΩ⟩, c, by subst hΩ; exact hcc, ?_⟩
        cbv
        refine call_pure hΩ 3 (hc c) rfl (fits _) rfl rfl ?_
        cbv
        refine br (fun g => ?_) (fun g => ?_) <;> cbv
        · exact .of (congrArg i64 (by rw [he, notT' hΩ g]; rfl))
        · rw [notF' hΩ g] at he
          exact ⟨i + 1, ⟨by omega, he⟩, by omega, Sbs.mk rfl rfl ⟨rfl, incI hΩ (by omega), trivial⟩⟩
      · replace h := geS hΩ h
        exact .of (congrArg i64 (by rw [he, List.drop_of_length_le h]; rfl))
theorem c_implPathFault (s : List UInt8) : PCtr PP n_impl_PathFault [str s] (i64 (pathF s)) := by
  obtain ⟨Ω, hΩ⟩ : ∃ Ω, Ω = std := ⟨_, rfl⟩
  obtain ⟨r, hr⟩ : ∃ r, r = pathF s := ⟨_, rfl⟩
  rw [← hr]
  have hc : ∀ c, PCtr PP n_impl_isNameByte [.sc (.int .u8 (Ω.u8 c))] (boo (nameB c)) := by subst hΩ; exact c_isNameByte
  unfold pathF at hr
  have hF : ∀ c, pathB c = (nameB c || (decide ((Ω.u8 c : Int) = 46) || (decide ((Ω.u8 c : Int) = 45) || decide ((Ω.u8 c : Int) = 47)))) := by subst hΩ; intro c; rfl
  generalize pathB = F at *
  generalize nameB = F0 at *
  have htab := tab
  have hmo := hmo
  refine PCtr.walk tab hΩ fn_impl_PathFault rfl ?_
  generalize PP = P at *
  cbv
  have hb1 : Ω.cmp .lss (Ω.int (Ω.lenS s)) 1 = true → r = 5 := fun h => by
    have h := ltZt hΩ h
    subst hΩ
    have h : (s.length : Int) < 1 := h
    rw [hr, if_pos (.inl (by omega))]
  have hb2 : Ω.cmp .gtr (Ω.int (Ω.lenS s)) 40 = true → r = 5 := fun h => by
    have h := gtZt hΩ h
    subst hΩ
    have h : 40 < (s.length : Int) := h
    rw [hr, if_pos (.inr (by omega))]
  have hok : Ω.cmp .lss (Ω.int (Ω.lenS s)) 1 = false → Ω.cmp .gtr (Ω.int (Ω.lenS s)) 40 = false → r = allCode F 5 s ∧ s.length ≤ 40 := fun h g => by
    have h := ltZf hΩ h
    have g := gtZf hΩ g
    subst hΩ
    have h : 1 ≤ (s.length : Int) := h
    have g : (s.length : Int) ≤ 40 := g
    rw [hr, if_neg (by omega)]
    exact ⟨rfl, by omega⟩
  clear hr
  refine br (fun h1 => ?_) (fun h1 => ?_) <;> cbv
  · exact .of (congrArg i64 (hb1 h1).symm)
  · refine br (fun h2 => ?_) (fun h2 => ?_) <;> cbv
    · exact .of (congrArg i64 (hb2 (iteB hΩ h2)).symm)
    · obtain ⟨he0, hn40⟩ := hok h1 (iteB hΩ h2)
      refine loopX htab hΩ (fun i : Nat => ⟨[(0, .sc (.string (mkS s))), (14, .sc (.int .i64 (Ω.int (Ω.lenS s)))), (15, .sc (.int .i64 (Ω.int i)))], 37, []⟩) (fun i => i ≤ s.length ∧ r = allCode F 5 (s.drop i)) (fun i => s.length - i) 0
        ⟨Nat.zero_le _, he0⟩ (Sbs.mk rfl rfl ⟨rfl, rfl, zeroI hΩ, trivial⟩) ?_
      rintro i ⟨hi, he⟩
      cbv
      refine br (fun h => ?_) (fun h => ?_) <;> cbv
      · replace h := ltS hΩ h
        obtain ⟨c, hcc⟩ := at_of (cs := s) h
        rw [allCode_at _ _ hcc, hF c] at he
        refine ⟨⟨nnI hΩ⟩, c, by subst hΩ; exact hcc, ?_⟩
        cbv
        refine call_pure hΩ 3 (hc c) rfl (fits _) rfl rfl ?_
        have hk : ∀ k : Int, (decide (k = 46) || (decide (k = 45) || decide (k = 47))) = true ↔ (k = 46 ∨ k = 45 ∨ k = 47) := fun k => by simp
        have stop : ¬ (F0 c = true) → ¬ ((Ω.u8 c : Int) = 46 ∨ (Ω.u8 c : Int) = 45 ∨ (Ω.u8 c : Int) = 47) → r = 5 := fun h1 h2 => by
          rw [he, if_neg]
          rw [Bool.or_eq_true, hk]
          exact fun h => h.elim h1 h2
        have go : F0 c = true ∨ (Ω.u8 c : Int) = 46 ∨ (Ω.u8 c : Int) = 45 ∨ (Ω.u8 c : Int) = 47 → r = allCode F 5 (s.drop (i + 1)) := fun h1 => by
          rw [he, if_pos]
          rw [Bool.or_eq_true, hk]
          exact h1
        have nx : r = allCode F 5 (s.drop (i + 1)) → (i + 1 ≤ s.length ∧ r = allCode F 5 (s.drop (i + 1))) := fun h => ⟨by omega, h⟩
        have lt1 : s.length - (i + 1) < s.length - i := by omega
        clear he hF
        refine br (fun g0 => ?_) (fun g0 => ?_) <;> cbv
        · have g0 := notA hΩ g0
          refine br (fun g1 => ?_) (fun g1 => ?_) <;> cbv
          · have g1 := neZt hΩ (iteA hΩ g1)
            refine br (fun g2 => ?_) (fun g2 => ?_) <;> cbv
            · have g2 := neZt hΩ (iteA hΩ g2)
              refine br (fun g3 => ?_) (fun g3 => ?_) <;> cbv
              · have g3 := neZt hΩ (iteA hΩ g3)
                exact .of (congrArg i64 (stop (by rw [g0]; simp) (fun h => h.elim g1 fun h => h.elim g2 g3)).symm)
              · have g3 := neZf hΩ (iteA hΩ g3)
                exact ⟨i + 1, nx (go (.inr (.inr (.inr g3)))), lt1, Sbs.mk rfl rfl ⟨rfl, rfl, incI hΩ (by omega), trivial⟩⟩
            · have g2 := neZf hΩ (iteA hΩ g2)
              exact ⟨i + 1, nx (go (.inr (.inr (.inl g2)))), lt1, Sbs.mk rfl rfl ⟨rfl, rfl, incI hΩ (by omega), trivial⟩⟩
          · have g1 := neZf hΩ (iteA hΩ g1)
            exact ⟨i + 1, nx (go (.inr (.inl g1))), lt1, Sbs.mk rfl rfl ⟨rfl, rfl, incI hΩ (by omega), trivial⟩⟩
        · have g0 := notB hΩ g0
          exact ⟨i + 1, nx (go (.inl g0)), lt1, Sbs.mk rfl rfl ⟨rfl, rfl, incI hΩ (by omega), trivial⟩⟩
      · replace h := geS hΩ h
        exact .of (congrArg i64 (by rw [he, List.drop_of_length_le h]; rfl))
end Go.Proofs.YtljjcffnomdhhaaGreatDoor

/- Walks: how much a disk holds. Plain theorems. -/
set_option linter.unusedVariables false
set_option linter.unusedSimpArgs false
namespace Go.Proofs.YtljjcffnomdhhaaGreatDoor
open Go Go.Fw
set_option maxRecDepth 100000
theorem addT {Ω : Opq} (hΩ : Ω = std) {x y z : Int} (h : x + y = z) (h0 : -9223372036854775808 ≤ z) (h1 : z ≤ 9223372036854775807) : Ω.ar .add .i64 x y = z := by subst hΩ; subst h; exact wrap64 h0 h1
/-- A disk's cells, seen and not written. -/
def Dsk.see (x : Dsk) : A := .rp [.sl false 2 (x.f.map (Fil.enc false)), i64 x.bg, i64 x.wr, i64 x.st, boo x.dn]
theorem totL_le {l : List Fil} {i : Nat} (h : i ≤ l.length) : totL (l.take i) ≤ totL l := by
  have : totL l = totL (l.take i) + totL (l.drop i) := by
    unfold totL
    rw [← List.sum_append, ← List.map_append, List.take_append_drop]
  omega
theorem c_l7Total (x : Dsk) (hl : x.f.length ≤ 1048576) (ht : totL x.f ≤ 1099511627776) : PCtr PP n_spec_l7Total [x.see] (i64 (totL x.f : Int)) := by
  obtain ⟨Ω, hΩ⟩ : ∃ Ω, Ω = std := ⟨_, rfl⟩
  unfold Dsk.see
  generalize x.bg = v1
  generalize x.wr = v2
  generalize x.st = v3
  generalize x.dn = v4
  obtain ⟨l, hL⟩ : ∃ l, l = x.f := ⟨_, rfl⟩
  rw [← hL] at ht hl ⊢
  obtain ⟨n, hn⟩ : ∃ n, n = l.length := ⟨_, rfl⟩
  obtain ⟨xs, hxs⟩ : ∃ xs, xs = l.map (Fil.enc false) := ⟨_, rfl⟩
  rw [← hxs]
  obtain ⟨ac, hac⟩ : ∃ ac : Nat → Int, ∀ i, ac i = (totL (l.take i) : Int) := ⟨_, fun _ => rfl⟩
  have hac0 : ac 0 = 0 := by rw [hac]; rfl
  have hacn : i64 (totL l : Int) = i64 (ac n) := by rw [hac, hn, List.take_length]
  have hacb : ∀ i, i ≤ n → 0 ≤ ac i ∧ ac i ≤ 1099511627776 := fun i hi => by rw [hac]; have := totL_le (l := l) (i := i) (by omega); omega
  have hacs : ∀ i c, l[i]? = some c → ac (i + 1) = ac i + (Ω.int (Ω.len (c.d.map byteA))) := fun i c h => by
    rw [hac, hac, totL_at h]; subst hΩ; show _ = _ + ((c.d.map byteA).length : Int); rw [List.length_map]; omega
  have hlen : Ω.int (Ω.len xs) = Ω.int n := by subst hΩ; show ((xs.length : Nat) : Int) = _; rw [hxs, List.length_map, hn]; rfl
  rw [hacn]
  clear hac hacn
  have htab := tab
  have hmo := hmo
  refine PCtr.walk tab hΩ fn_spec_l7Total rfl ?_
  generalize PP = P at *
  cbv
  refine loopX htab hΩ (fun i : Nat => ⟨[(0, .rp [.sl false 2 xs, i64 v1, i64 v2, i64 v3, boo v4]), (3, i64 (ac i)), (4, i64 (Ω.int i))], 26, []⟩) (fun i => i ≤ n) (fun i => n - i) 0 (Nat.zero_le _)
    (Sbs.mk rfl rfl ⟨rfl, congrArg i64 hac0.symm, zeroI hΩ, trivial⟩) (fun i hi => ?_)
  cbv
  refine br (fun h => ?_) (fun h => ?_) <;> cbv
  · have h := ltZt hΩ h
    have h : i < n := by rw [hlen] at h; subst hΩ; have h : (i : Int) < (n : Int) := h; omega
    obtain ⟨c, hc⟩ := at_of (cs := l) (by omega : i < _)
    have hs := hacs i c hc
    have hb := hacb (i + 1) (by omega)
    generalize hd : c.d.map byteA = cd at hs
    refine ⟨⟨nnI hΩ⟩, .agg [str c.p, .sl false 1 cd], (rdI hΩ hxs hc).trans (by rw [← hd]; rfl), ?_⟩
    cbv
    exact ⟨i + 1, by omega, by omega, Sbs.mk rfl rfl ⟨rfl, congrArg i64 (addT hΩ hs.symm (by omega) (by omega)), incI hΩ (by omega), trivial⟩⟩
  · have h := ltZf hΩ h
    have h : i = n := by rw [hlen] at h; subst hΩ; have h : (n : Int) ≤ (i : Int) := h; omega
    exact .of (by rw [h])
theorem c_total (x : Dsk) (hl : x.f.length ≤ 1048576) (ht : totL x.f ≤ 1099511627776) : PCtr PP n_impl_Disk_total [x.enc false false] (i64 (totL x.f : Int)) := by
  obtain ⟨Ω, hΩ⟩ : ∃ Ω, Ω = std := ⟨_, rfl⟩
  unfold Dsk.enc
  generalize x.bg = v1
  generalize x.wr = v2
  generalize x.st = v3
  generalize x.dn = v4
  obtain ⟨l, hL⟩ : ∃ l, l = x.f := ⟨_, rfl⟩
  rw [← hL] at ht hl ⊢
  obtain ⟨n, hn⟩ : ∃ n, n = l.length := ⟨_, rfl⟩
  obtain ⟨xs, hxs⟩ : ∃ xs, xs = l.map (Fil.enc false) := ⟨_, rfl⟩
  rw [← hxs]
  obtain ⟨ac, hac⟩ : ∃ ac : Nat → Int, ∀ i, ac i = (totL (l.take i) : Int) := ⟨_, fun _ => rfl⟩
  have hac0 : ac 0 = 0 := by rw [hac]; rfl
  have hacn : i64 (totL l : Int) = i64 (ac n) := by rw [hac, hn, List.take_length]
  have hacb : ∀ i, i ≤ n → 0 ≤ ac i ∧ ac i ≤ 1099511627776 := fun i hi => by rw [hac]; have := totL_le (l := l) (i := i) (by omega); omega
  have hacs : ∀ i c, l[i]? = some c → ac (i + 1) = ac i + (Ω.int (Ω.len (c.d.map byteA))) := fun i c h => by
    rw [hac, hac, totL_at h]; subst hΩ; show _ = _ + ((c.d.map byteA).length : Int); rw [List.length_map]; omega
  have hlen : Ω.int (Ω.len xs) = Ω.int n := by subst hΩ; show ((xs.length : Nat) : Int) = _; rw [hxs, List.length_map, hn]; rfl
  rw [hacn]
  clear hac hacn
  have htab := tab
  have hmo := hmo
  refine PCtr.walk tab hΩ fn_impl_Disk_total rfl ?_
  generalize PP = P at *
  cbv
  refine loopX htab hΩ (fun i : Nat => ⟨[(3, i64 (ac i)), (7, .sl false 2 xs), (8, i64 (Ω.int n)), (9, i64 (Ω.int i))], 20, []⟩) (fun i => i ≤ n) (fun i => n - i) 0 (Nat.zero_le _)
    (((Sbs.unlk (r := 0) rfl rfl).trans (Sbs.thaw0 (r := 0) rfl rfl rfl)).trans ((Sbs.cut 0 rfl).trans (Sbs.mk rfl rfl ⟨congrArg i64 hac0.symm, rfl, congrArg i64 hlen, zeroI hΩ, trivial⟩))) (fun i hi => ?_)
  cbv
  refine br (fun h => ?_) (fun h => ?_) <;> cbv
  · have h := ltZt hΩ h
    have h : i < n := by subst hΩ; have h : (i : Int) < (n : Int) := h; omega
    obtain ⟨c, hc⟩ := at_of (cs := l) (by omega : i < _)
    have hs := hacs i c hc
    have hb := hacb (i + 1) (by omega)
    generalize hd : c.d.map byteA = cd at hs
    refine ⟨⟨nnI hΩ⟩, .agg [str c.p, .sl false 1 cd], (rdI hΩ hxs hc).trans (by rw [← hd]; rfl), ?_⟩
    cbv
    exact ⟨i + 1, by omega, by omega, (Sbs.cut 0 rfl).trans (Sbs.mk rfl rfl ⟨congrArg i64 (addT hΩ hs.symm (by omega) (by omega)), rfl, rfl, incI hΩ (by omega), trivial⟩)⟩
  · have h := ltZf hΩ h
    have h : i = n := by subst hΩ; have h : (n : Int) ≤ (i : Int) := h; omega
    exact .of (by rw [h])
end Go.Proofs.YtljjcffnomdhhaaGreatDoor

/- Walks: paths that begin with a text. Plain theorems. -/
set_option linter.unusedVariables false
set_option linter.unusedSimpArgs false
namespace Go.Proofs.YtljjcffnomdhhaaGreatDoor
open Go Go.Fw
set_option maxRecDepth 100000
def begB (p s : List UInt8) : Bool := Lib.hasPrefix s p
theorem begB_eq (p s : List UInt8) : begB p s = decide (p.length ≤ s.length ∧ s.take p.length = p) := by
  unfold begB Lib.hasPrefix
  rw [Bool.eq_iff_iff, decide_eq_true_eq, List.isPrefixOf_iff_prefix, List.prefix_iff_eq_take]
  constructor
  · intro h; exact ⟨by rw [h]; simp; omega, h.symm⟩
  · intro h; exact h.2.symm
/-- The paths of files that begin with a text, in order. -/
def pathsF (l : List Fil) (p : List UInt8) : List (List UInt8) := (l.map Fil.p).filter (begB p)
theorem pathsF_at {l : List Fil} {i : Nat} {c : Fil} (p : List UInt8) (h : l[i]? = some c) : pathsF (l.take (i + 1)) p = pathsF (l.take i) p ++ (if begB p c.p then [c.p] else []) := by
  unfold pathsF
  rw [List.take_add_one, h]
  simp only [Option.toList, List.map_append, List.filter_append, List.map_cons, List.map_nil]
  congr 1
  cases hb : begB p c.p <;> simp [hb]
theorem pathsF_len (l : List Fil) (p : List UInt8) : (pathsF l p).length ≤ l.length := by
  unfold pathsF
  exact Nat.le_trans (List.length_filter_le _ _) (by rw [List.length_map]; exact Nat.le_refl _)
theorem c_l7Begins (s p : List UInt8) : PCtr PP n_spec_l7Begins [str s, str p] (boo (begB p s)) := by
  obtain ⟨Ω, hΩ⟩ : ∃ Ω, Ω = std := ⟨_, rfl⟩
  obtain ⟨r, hr⟩ : ∃ r, r = begB p s := ⟨_, rfl⟩
  rw [← hr]
  rw [begB_eq] at hr
  have hg : ∀ {b}, Ω.cmp .geq (Ω.int (Ω.lenS s)) (Ω.int (Ω.lenS p)) = b → b = decide (p.length ≤ s.length) := fun h => by subst hΩ; rw [← h]; exact decide_eq_decide.2 (by show ((p.length : Nat) : Int) ≤ (s.length : Int) ↔ _; omega)
  have hno : ¬ p.length ≤ s.length → r = false := fun h => by rw [hr]; exact decide_eq_false fun g => h g.1
  have hyes : p.length ≤ s.length → r = Ω.cmpS .eql (Ω.segS 0 (Ω.nat (Ω.int (Ω.lenS p))) s) p := fun h => by
    rw [hr]; subst hΩ
    show _ = (((s.take p.length).drop 0) == p)
    rw [List.drop_zero, Bool.eq_iff_iff]; simp [h]
  clear hr
  have htab := tab
  have hmo := hmo
  refine PCtr.walk tab hΩ fn_spec_l7Begins rfl ?_
  generalize PP = P at *
  cbv
  refine br (fun h => ?_) (fun h => ?_) <;> cbv
  · have h := of_decide_eq_true (hg h).symm
    have hle := h
    exact ⟨⟨trivial, nnI hΩ, Nat.zero_le _, by subst hΩ; exact (show p.length ≤ s.length from hle)⟩, .of (congrArg boo (by rw [hyes h]; subst hΩ; rfl))⟩
  · have h := of_decide_eq_false (hg h).symm
    exact .of (congrArg boo (hno h).symm)
theorem c_l7Paths (x : Dsk) (p : List UInt8) (hl : x.f.length ≤ 1048576) : PCtr PP n_spec_l7Paths [x.see, str p] (.sl true 1 ((pathsF x.f p).map str)) := by
  obtain ⟨Ω, hΩ⟩ : ∃ Ω, Ω = std := ⟨_, rfl⟩
  obtain ⟨F, hF⟩ : ∃ F : List (List UInt8) → List A, F = fun l => l.map str := ⟨_, rfl⟩
  have hFm : ∀ t : List (List UInt8), t.map str = F t := fun t => by rw [hF]
  have hlenF : ∀ t, (F t).length = t.length := fun t => by rw [hF, List.length_map]
  have hap : ∀ t x, Ω.app (Ω.take (Ω.len (F t)) (F t)) [str x] = F (t ++ [x]) := fun t x => by rw [takeAll hΩ, ← hFm, ← hFm, List.map_append]; subst hΩ; rfl
  have hpl : ∀ t x, Ω.plus (Ω.len (F t)) (Ω.len [str x]) = Ω.len (F (t ++ [x])) := fun t x => by rw [← hap, takeAll hΩ]; subst hΩ; exact (List.length_append).symm
  have hF0 : F [] = [] := by rw [hF]; rfl
  have hb : ∀ c, PCtr PP n_spec_l7Begins [str c, str p] (boo (begB p c)) := fun c => c_l7Begins c p
  unfold Dsk.see
  obtain ⟨l, v1, v2, v3, v4⟩ := x
  dsimp only at *
  obtain ⟨n, hn⟩ : ∃ n, n = l.length := ⟨_, rfl⟩
  obtain ⟨W, hW⟩ : ∃ W : Nat → List (List UInt8), W = fun i => pathsF (l.take i) p := ⟨_, rfl⟩
  have hWs : ∀ i c, l[i]? = some c → W (i + 1) = W i ++ (if begB p c.p then [c.p] else []) := fun i c h => by rw [hW]; exact pathsF_at p h
  have hW0 : W 0 = [] := by rw [hW]; rfl
  have hWn : pathsF l p = W n := by rw [hW, hn]; simp only [List.take_length]
  have hWl : ∀ i, (W i).length ≤ i := fun i => by rw [hW]; exact Nat.le_trans (pathsF_len _ _) (by rw [List.length_take]; omega)
  rw [hWn, hFm]
  clear hW hWn
  obtain ⟨xs, hxs⟩ : ∃ xs, xs = l.map (Fil.enc false) := ⟨_, rfl⟩
  rw [← hxs]
  have hlen : Ω.int (Ω.len xs) = Ω.int n := by subst hΩ; show ((xs.length : Nat) : Int) = _; rw [hxs, List.length_map, hn]; rfl
  have hat : ∀ i c, l[i]? = some c → xs[(Ω.int i).toNat]? = some (.agg [str c.p, .sl false 1 (c.d.map byteA)]) := fun i c hc => (rdI hΩ hxs hc).trans rfl
  have hnl : ∀ i, i < n → ∃ c, l[i]? = some c := fun i hi => at_of (by omega)
  generalize begB p = G at *
  have htab := tab
  have hmo := hmo
  refine PCtr.walk tab hΩ fn_spec_l7Paths rfl ?_
  generalize PP = P at *
  cbv
  refine loopX htab hΩ (fun i : Nat => ⟨[(0, .rp [.sl false 2 xs, i64 v1, i64 v2, i64 v3, boo v4]), (1, str p), (5, .vw 0 0 (Ω.len (F (W i)))), (6, i64 (Ω.int i))], 39, [some ⟨1, F (W i), false⟩]⟩) (fun i => i ≤ n) (fun i => n - i) 0 (Nat.zero_le _)
    ?enter (fun i hi => ?_)
  case enter => exact Sbs.mk rfl (by dsimp only; rw [hW0, hF0]) ⟨rfl, rfl, by dsimp only; rw [hW0, hF0]; subst hΩ; rfl, zeroI hΩ, trivial⟩
  have hol := hlenF (W i)
  have hlo : Ω.len (F (W i)) = (F (W i)).length := by subst hΩ; rfl
  have hle : Ω.len (F (W i)) ≤ (F (W i)).length := by rw [hlo]; exact Nat.le_refl _
  have htk : Ω.take (Ω.len (F (W i))) (F (W i)) = F (W i) := takeAll hΩ _
  have hwi := hWl i
  cbv
  refine br (fun h => ?_) (fun h => ?_) <;> cbv
  · have h := ltZt hΩ h
    have h : i < n := by rw [hlen] at h; subst hΩ; have h : (i : Int) < (n : Int) := h; omega
    obtain ⟨c, hc⟩ := hnl i h
    have hst := hWs i c hc
    have hap0 := hap (W i) c.p
    have hpl0 := hpl (W i) c.p
    have hac := hat i c hc
    have hbc := hb c.p
    generalize c.d.map byteA = cd at *
    generalize G c.p = g at *
    refine ⟨⟨nnI hΩ⟩, _, hac, ?_⟩
    cbv
    refine call_pure hΩ 3 hbc rfl (fits _) rfl rfl ?_
    cbv
    refine br (fun q => ?_) (fun q => ?_) <;> cbv
    · rw [if_pos q] at hst
      refine ⟨⟨nnI hΩ⟩, _, hac, ?_⟩
      cbv
      exact ⟨⟨rfl, okAll rfl, by show (Ω.len (F (W i)) + 1) * 16 ≤ 140737488355328; omega, by show Ω.len (F (W i)) + 1 ≤ 9223372036854775807; omega⟩,
        i + 1, by omega, by omega, (Sbs.cut 1 rfl).trans (Sbs.mk rfl (by show [some (Row.mk 1 (Ω.app (Ω.take (Ω.len (F (W i))) (F (W i))) [str c.p]) false)] = _; rw [hap0, hst]) ⟨rfl, rfl, congrArg (A.vw 0 0) (by rw [hst]; exact hpl0), incI hΩ (by omega), trivial⟩)⟩
    · rw [if_neg (by rw [q]; simp), List.append_nil] at hst
      exact ⟨i + 1, by omega, by omega, Sbs.mk rfl (by rw [hst]) ⟨rfl, rfl, by rw [hst]; rfl, incI hΩ (by omega), trivial⟩⟩
  · have h := ltZf hΩ h
    have h : i = n := by rw [hlen] at h; subst hΩ; have h : (n : Int) ≤ (i : Int) := h; omega
    subst h
    exact ⟨⟨rfl, hle⟩, .of (congrArg (A.sl true 1) htk)⟩
theorem c_paths (x : Dsk) (p : List UInt8) (hl : x.f.length ≤ 1048576) : PCtr PP n_impl_Disk_paths [x.enc false false, str p] (.sl true 1 ((pathsF x.f p).map str)) := by
  obtain ⟨Ω, hΩ⟩ : ∃ Ω, Ω = std := ⟨_, rfl⟩
  obtain ⟨F, hF⟩ : ∃ F : List (List UInt8) → List A, F = fun l => l.map str := ⟨_, rfl⟩
  have hFm : ∀ t : List (List UInt8), t.map str = F t := fun t => by rw [hF]
  have hlenF : ∀ t, (F t).length = t.length := fun t => by rw [hF, List.length_map]
  have hap : ∀ t x, Ω.app (Ω.take (Ω.len (F t)) (F t)) [str x] = F (t ++ [x]) := fun t x => by rw [takeAll hΩ, ← hFm, ← hFm, List.map_append]; subst hΩ; rfl
  have hpl : ∀ t x, Ω.plus (Ω.len (F t)) (Ω.len [str x]) = Ω.len (F (t ++ [x])) := fun t x => by rw [← hap, takeAll hΩ]; subst hΩ; exact (List.length_append).symm
  have hF0 : F [] = [] := by rw [hF]; rfl
  have hb : ∀ c, PCtr PP n_strings_HasPrefix [str c, str p] (boo (begB p c)) := fun c => c_HasPrefix c p
  unfold Dsk.enc
  obtain ⟨l, v1, v2, v3, v4⟩ := x
  dsimp only at *
  obtain ⟨n, hn⟩ : ∃ n, n = l.length := ⟨_, rfl⟩
  obtain ⟨W, hW⟩ : ∃ W : Nat → List (List UInt8), W = fun i => pathsF (l.take i) p := ⟨_, rfl⟩
  have hWs : ∀ i c, l[i]? = some c → W (i + 1) = W i ++ (if begB p c.p then [c.p] else []) := fun i c h => by rw [hW]; exact pathsF_at p h
  have hW0 : W 0 = [] := by rw [hW]; rfl
  have hWn : pathsF l p = W n := by rw [hW, hn]; simp only [List.take_length]
  have hWl : ∀ i, (W i).length ≤ i := fun i => by rw [hW]; exact Nat.le_trans (pathsF_len _ _) (by rw [List.length_take]; omega)
  rw [hWn, hFm]
  clear hW hWn
  obtain ⟨xs, hxs⟩ : ∃ xs, xs = l.map (Fil.enc false) := ⟨_, rfl⟩
  rw [← hxs]
  have hlen : Ω.int (Ω.len xs) = Ω.int n := by subst hΩ; show ((xs.length : Nat) : Int) = _; rw [hxs, List.length_map, hn]; rfl
  have hat : ∀ i c, l[i]? = some c → xs[(Ω.int i).toNat]? = some (.agg [str c.p, .sl false 1 (c.d.map byteA)]) := fun i c hc => (rdI hΩ hxs hc).trans rfl
  have hnl : ∀ i, i < n → ∃ c, l[i]? = some c := fun i hi => at_of (by omega)
  generalize begB p = G at *
  have htab := tab
  have hmo := hmo
  refine PCtr.walk tab hΩ fn_impl_Disk_paths rfl ?_
  generalize PP = P at *
  cbv
  refine loopX htab hΩ (fun i : Nat => ⟨[(1, str p), (5, .vw 1 0 (Ω.len (F (W i)))), (10, .sl false 2 xs), (11, i64 (Ω.int n)), (12, i64 (Ω.int i))], 27, [none, some ⟨1, F (W i), false⟩]⟩) (fun i => i ≤ n) (fun i => n - i) 0 (Nat.zero_le _)
    ?enter (fun i hi => ?_)
  case enter => exact ((Sbs.unlk (r := 0) rfl rfl).trans (Sbs.thaw0 (r := 0) rfl rfl rfl)).trans (Sbs.mk rfl (by dsimp only; rw [hW0, hF0]; rfl) ⟨rfl, by dsimp only; rw [hW0, hF0]; subst hΩ; rfl, rfl, congrArg i64 hlen, zeroI hΩ, trivial⟩)
  have hol := hlenF (W i)
  have hlo : Ω.len (F (W i)) = (F (W i)).length := by subst hΩ; rfl
  have hle : Ω.len (F (W i)) ≤ (F (W i)).length := by rw [hlo]; exact Nat.le_refl _
  have htk : Ω.take (Ω.len (F (W i))) (F (W i)) = F (W i) := takeAll hΩ _
  have hwi := hWl i
  cbv
  refine br (fun h => ?_) (fun h => ?_) <;> cbv
  · have h := ltZt hΩ h
    have h : i < n := by subst hΩ; have h : (i : Int) < (n : Int) := h; omega
    obtain ⟨c, hc⟩ := hnl i h
    have hst := hWs i c hc
    have hap0 := hap (W i) c.p
    have hpl0 := hpl (W i) c.p
    have hac := hat i c hc
    have hbc := hb c.p
    generalize c.d.map byteA = cd at *
    generalize G c.p = g at *
    refine ⟨⟨nnI hΩ⟩, _, hac, ?_⟩
    cbv
    refine call_pure hΩ 3 hbc rfl (fits _) rfl rfl ?_
    cbv
    refine br (fun q => ?_) (fun q => ?_) <;> cbv
    · rw [if_pos q] at hst
      exact ⟨⟨rfl, okAll rfl, by show (Ω.len (F (W i)) + 1) * 16 ≤ 140737488355328; omega, by show Ω.len (F (W i)) + 1 ≤ 9223372036854775807; omega⟩,
        i + 1, by omega, by omega, (Sbs.cut 2 rfl).trans (Sbs.mk rfl (by show [none, some (Row.mk 1 (Ω.app (Ω.take (Ω.len (F (W i))) (F (W i))) [str c.p]) false)] = _; rw [hap0, hst]) ⟨rfl, congrArg (A.vw 1 0) (by rw [hst]; exact hpl0), rfl, rfl, incI hΩ (by omega), trivial⟩)⟩
    · rw [if_neg (by rw [q]; simp), List.append_nil] at hst
      exact ⟨i + 1, by omega, by omega, (Sbs.cut 2 rfl).trans (Sbs.mk rfl (by rw [hst]; rfl) ⟨rfl, by rw [hst]; rfl, rfl, rfl, incI hΩ (by omega), trivial⟩)⟩
  · have h := ltZf hΩ h
    have h : i = n := by subst hΩ; have h : (n : Int) ≤ (i : Int) := h; omega
    subst h
    exact ⟨⟨rfl, hle⟩, .of (congrArg (A.sl true 1) htk)⟩
end Go.Proofs.YtljjcffnomdhhaaGreatDoor

/- Files in order: where a path stands. Plain theorems. -/
set_option linter.unusedVariables false
set_option linter.unusedSimpArgs false
namespace Go.Proofs.YtljjcffnomdhhaaGreatDoor
open Go Go.Fw
theorem cmpB_zero : ∀ {x y : List UInt8}, Lib.compareBytes x y = 0 ↔ x = y
  | [], [] => by simp [Lib.compareBytes]
  | [], _ :: _ => by simp [Lib.compareBytes]
  | _ :: _, [] => by simp [Lib.compareBytes]
  | a :: us, b :: bs => by
    have ih := cmpB_zero (x := us) (y := bs)
    rw [Lib.compareBytes]
    split
    · rename_i h; simp; intro e; subst e; exact absurd h (UInt8.lt_irrefl _)
    · rename_i h1
      split
      · rename_i h; simp; intro e; subst e; exact absurd h (UInt8.lt_irrefl _)
      · rename_i h2
        have : a = b := UInt8.le_antisymm (UInt8.not_lt.1 h2) (UInt8.not_lt.1 h1)
        rw [ih]; simp [this]
theorem cmpB_lt : ∀ {x y : List UInt8}, Lib.compareBytes x y < 0 ↔ x < y
  | [], [] => by simp [Lib.compareBytes]
  | [], _ :: _ => by simp [Lib.compareBytes]
  | _ :: _, [] => by simp [Lib.compareBytes]
  | a :: us, b :: bs => by
    have ih := cmpB_lt (x := us) (y := bs)
    rw [Lib.compareBytes, List.cons_lt_cons_iff]
    split
    · rename_i h; simp [h]
    · rename_i h1
      split
      · rename_i h; simp only [h1, false_or]; constructor
        · intro h; simp at h
        · rintro ⟨rfl, -⟩; exact absurd h (UInt8.lt_irrefl _)
      · rename_i h2
        have : a = b := UInt8.le_antisymm (UInt8.not_lt.1 h2) (UInt8.not_lt.1 h1)
        rw [ih]; simp [this]
/-- Files in strict order of their paths. -/
def ordF (l : List Fil) : Prop := l.Pairwise fun a b => a.p < b.p
/-- Where a path stands or would stand. -/
def plcF (l : List Fil) (p : List UInt8) : Nat := (l.takeWhile fun f => decide (f.p < p)).length
theorem plcF_le (l : List Fil) (p : List UInt8) : plcF l p ≤ l.length := (List.takeWhile_sublist _).length_le
theorem plcF_of {l : List Fil} {p : List UInt8} {i : Nat} (hi : i ≤ l.length) (h1 : ∀ k f, l[k]? = some f → k < i → f.p < p) (h2 : ∀ k f, l[k]? = some f → i ≤ k → ¬ f.p < p) : plcF l p = i := by
  unfold plcF
  induction l generalizing i with
  | nil => simp at hi ⊢; omega
  | cons f l ih =>
    rcases i with _ | i
    · have := h2 0 f rfl (Nat.le_refl _)
      rw [List.takeWhile_cons_of_neg (by simpa using this)]; rfl
    · have := h1 0 f rfl (by omega)
      rw [List.takeWhile_cons_of_pos (by simpa using this), List.length_cons]
      rw [ih (i := i) (by simpa using hi) (fun k g hg hk => h1 (k + 1) g hg (by omega)) (fun k g hg hk => h2 (k + 1) g hg (by omega))]
theorem ordF_at {l : List Fil} (h : ordF l) {i j : Nat} {a b : Fil} (ha : l[i]? = some a) (hb : l[j]? = some b) (hij : i < j) : a.p < b.p := by
  obtain ⟨h1, rfl⟩ := List.getElem?_eq_some_iff.1 ha
  obtain ⟨h2, rfl⟩ := List.getElem?_eq_some_iff.1 hb
  exact List.pairwise_iff_getElem.1 h i j h1 h2 hij
theorem ordF_lo {l : List Fil} (h : ordF l) {p : List UInt8} {m : Nat} {a : Fil} (ha : l[m]? = some a) (hp : a.p < p) : ∀ k f, l[k]? = some f → k < m + 1 → f.p < p := fun k f hf hk => by
  rcases Nat.lt_or_ge k m with h' | h'
  · exact List.lt_trans (ordF_at h hf ha h') hp
  · obtain rfl : k = m := by omega
    rw [ha] at hf; cases hf; exact hp
theorem ordF_hi {l : List Fil} (h : ordF l) {p : List UInt8} {m : Nat} {a : Fil} (ha : l[m]? = some a) (hp : ¬ a.p < p) : ∀ k f, l[k]? = some f → m ≤ k → ¬ f.p < p := fun k f hf hk g => by
  rcases Nat.lt_or_ge m k with h' | h'
  · exact hp (List.lt_trans (ordF_at h ha hf h') g)
  · obtain rfl : k = m := by omega
    rw [ha] at hf; cases hf; exact hp g
/-- Where the spec finds a path: the first place, or -1. -/
def fndF (l : List Fil) (p : List UInt8) : Int := idxFrom (fun f : Fil => decide (f.p = p)) 0 l
theorem c_l7Find (x : Dsk) (p : List UInt8) (hl : x.f.length ≤ 1048576) : PCtr PP n_spec_l7Find [x.see, str p] (i64 (fndF x.f p)) := by
  obtain ⟨Ω, hΩ⟩ : ∃ Ω, Ω = std := ⟨_, rfl⟩
  unfold Dsk.see
  obtain ⟨l, v1, v2, v3, v4⟩ := x
  dsimp only at *
  obtain ⟨r, hr⟩ : ∃ r, r = fndF l p := ⟨_, rfl⟩
  rw [← hr]
  unfold fndF at hr
  obtain ⟨n, hn⟩ : ∃ n, n = l.length := ⟨_, rfl⟩
  obtain ⟨xs, hxs⟩ : ∃ xs, xs = l.map (Fil.enc false) := ⟨_, rfl⟩
  rw [← hxs]
  have hlen : Ω.int (Ω.len xs) = Ω.int n := by subst hΩ; show ((xs.length : Nat) : Int) = _; rw [hxs, List.length_map, hn]; rfl
  have hat : ∀ i c, l[i]? = some c → xs[(Ω.int i).toNat]? = some (.agg [str c.p, .sl false 1 (c.d.map byteA)]) := fun i c hc => (rdI hΩ hxs hc).trans rfl
  have hnl : ∀ i, i < n → ∃ c, l[i]? = some c := fun i hi => at_of (by omega)
  have hend : idxFrom (fun f : Fil => decide (f.p = p)) n (l.drop n) = -1 := by rw [List.drop_of_length_le (by omega)]; rfl
  have hst : ∀ i c, l[i]? = some c → idxFrom (fun f : Fil => decide (f.p = p)) i (l.drop i) = if decide (c.p = p) = true then (i : Int) else idxFrom (fun f : Fil => decide (f.p = p)) (i + 1) (l.drop (i + 1)) := fun i c hc => idxFrom_at _ hc
  have hic : ∀ i : Nat, i64 (Ω.int i) = i64 (i : Int) := fun i => by subst hΩ; rfl
  obtain ⟨K, hK⟩ : ∃ K : Nat → Int, ∀ i, K i = idxFrom (fun f : Fil => decide (f.p = p)) i (l.drop i) := ⟨_, fun _ => rfl⟩
  simp only [← hK] at hend hst
  have hr : r = K 0 := by rw [hK]; exact hr
  clear hK
  have htab := tab
  have hmo := hmo
  refine PCtr.walk tab hΩ fn_spec_l7Find rfl ?_
  generalize PP = P at *
  cbv
  refine loopX htab hΩ (fun i : Nat => ⟨[(0, .rp [.sl false 2 xs, i64 v1, i64 v2, i64 v3, boo v4]), (1, str p), (5, i64 (Ω.int i))], 26, []⟩) (fun i => i ≤ n ∧ r = K i) (fun i => n - i) 0 ⟨Nat.zero_le _, hr⟩
    (Sbs.mk rfl rfl ⟨rfl, rfl, zeroI hΩ, trivial⟩) ?_
  rintro i ⟨hi, he⟩
  cbv
  refine br (fun h => ?_) (fun h => ?_) <;> cbv
  · have h := ltZt hΩ h
    have h : i < n := by rw [hlen] at h; subst hΩ; have h : (i : Int) < (n : Int) := h; omega
    obtain ⟨c, hc⟩ := hnl i h
    have hac := hat i c hc
    have hs := hst i c hc
    have hi1 : i + 1 ≤ n := by omega
    have hlt : n - (i + 1) < n - i := by omega
    generalize c.d.map byteA = cd at *
    refine ⟨⟨nnI hΩ⟩, _, hac, ?_⟩
    cbv
    refine br (fun g => ?_) (fun g => ?_) <;> cbv
    · have g : c.p = p := by subst hΩ; exact of_decide_eq_true ((by simpa [cmpSS] using (show cmpSS .eql c.p p = true from g)))
      rw [if_pos (by simpa using g)] at hs
      exact .of ((hic i).trans (congrArg i64 (by rw [he, hs])))
    · have g : c.p ≠ p := by subst hΩ; exact fun e => by rw [e] at g; have h : cmpSS .eql p p = false := g; simp [cmpSS] at h
      rw [if_neg (by simpa using g)] at hs
      exact ⟨i + 1, ⟨hi1, by rw [he, hs]⟩, hlt, Sbs.mk rfl rfl ⟨rfl, rfl, incI hΩ (by omega), trivial⟩⟩
  · have h := ltZf hΩ h
    have h : i = n := by rw [hlen] at h; subst hΩ; have h : (n : Int) ≤ (i : Int) := h; omega
    exact .of (congrArg i64 (by rw [he, h, hend]))
end Go.Proofs.YtljjcffnomdhhaaGreatDoor

/- Walks: the place of a path. Plain theorems. -/
set_option linter.unusedVariables false
set_option linter.unusedSimpArgs false
namespace Go.Proofs.YtljjcffnomdhhaaGreatDoor
open Go Go.Fw
set_option maxRecDepth 100000
theorem c_place1 (f : Fil) (p : List UInt8) : PCtr PP n_impl_Disk_place_1 [f.enc false, str p] (i64 (Lib.compareBytes f.p p)) := by
  obtain ⟨Ω, hΩ⟩ : ∃ Ω, Ω = std := ⟨_, rfl⟩
  have hc := c_CompareS f.p p
  generalize Lib.compareBytes f.p p = r at *
  unfold Fil.enc
  generalize f.d.map byteA = cd
  have htab := tab
  have hmo := hmo
  refine PCtr.walk tab hΩ fn_impl_Disk_place_1 rfl ?_
  generalize PP = P at *
  cbv
  refine call_pure hΩ 3 hc rfl (fits _) rfl rfl ?_
  cbv
  exact .same
theorem wrapU {x : Int} (h0 : 0 ≤ x) (h1 : x < 18446744073709551616) : IntKind.u64.wrap x = x := by
  simp [IntKind.wrap, IntKind.bits, IntKind.signed]
  omega
theorem midI {Ω : Opq} (hΩ : Ω = std) {i j : Nat} (hij : i < j) (hj : j ≤ 1048576) : Ω.wrap .i64 (Ω.ar .shr .u64 (Ω.wrap .u64 (Ω.ar .add .i64 (Ω.int i) (Ω.int j))) 1) = Ω.int ((i + j) / 2) := by
  subst hΩ
  show IntKind.i64.wrap (IntKind.u64.wrap (IntKind.i64.wrap ((i : Int) + j)) / 2 ^ 1) = (((i + j) / 2 : Nat) : Int)
  have e1 : IntKind.i64.wrap ((i : Int) + j) = (i : Int) + j := wrap64 (by omega) (by omega)
  rw [e1, wrapU (by omega) (by omega), wrap64 (by omega) (by omega)]
  omega
/-- Is a path among the files. -/
def hasF (l : List Fil) (p : List UInt8) : Bool := match l[plcF l p]? with | some f => decide (f.p = p) | none => false
/-- Where the search of a path ends, in files in any order. -/
def binG (l : List Fil) (p : List UInt8) : Nat → Nat → Nat → Nat
  | 0, i, _ => i
  | k + 1, i, j => if i < j then (match l[(i + j) / 2]? with
    | some c => if Lib.compareBytes c.p p < 0 then binG l p k ((i + j) / 2 + 1) j else binG l p k i ((i + j) / 2)
    | none => i) else i
def plcB (l : List Fil) (p : List UInt8) : Nat := binG l p l.length 0 l.length
def hasB' (l : List Fil) (p : List UInt8) : Bool := match l[plcB l p]? with | some f => decide (f.p = p) | none => false
theorem binG_lt {l : List Fil} {p : List UInt8} {k i j m : Nat} {c : Fil} (h : i < j) (hm : m = (i + j) / 2) (hc : l[m]? = some c) : binG l p (k + 1) i j = if Lib.compareBytes c.p p < 0 then binG l p k (m + 1) j else binG l p k i m := by
  subst hm
  rw [binG, if_pos h, hc]
theorem binG_ge {l : List Fil} {p : List UInt8} {k i j : Nat} (h : j ≤ i) : binG l p k i j = i := by
  cases k with
  | zero => rfl
  | succ k => rw [binG, if_neg (by omega)]
theorem binG_ord {l : List Fil} {p : List UInt8} (ho : ordF l) : ∀ {k i j : Nat}, i ≤ j → j ≤ l.length → j - i ≤ k → (∀ k f, l[k]? = some f → k < i → f.p < p) → (∀ k f, l[k]? = some f → j ≤ k → ¬ f.p < p) → binG l p k i j = plcF l p
  | 0, i, j, h1, h2, h3, h4, h5 => by
    have : i = j := by omega
    subst this
    exact (plcF_of h2 h4 h5).symm
  | k + 1, i, j, h1, h2, h3, h4, h5 => by
    by_cases h : i < j
    · obtain ⟨c, hc⟩ := at_of (cs := l) (i := (i + j) / 2) (by omega)
      rw [binG_lt h rfl hc]
      have hcl := cmpB_lt (x := c.p) (y := p)
      split
      · rename_i g
        exact binG_ord ho (by omega) h2 (by omega) (ordF_lo ho hc (hcl.1 g)) h5
      · rename_i g
        exact binG_ord ho (by omega) (by omega) (by omega) h4 (ordF_hi ho hc fun g' => g (hcl.2 g'))
    · rw [binG_ge (by omega)]
      have : i = j := by omega
      subst this
      exact (plcF_of h2 h4 h5).symm
theorem plcB_ord {l : List Fil} (ho : ordF l) (p : List UInt8) : plcB l p = plcF l p := binG_ord ho (Nat.zero_le _) (Nat.le_refl _) (by omega) (fun _ _ _ h => by omega) (fun k f hf h => absurd (List.getElem?_eq_some_iff.1 hf).1 (by omega))
theorem hasB_ord {l : List Fil} (ho : ordF l) (p : List UInt8) : hasB' l p = hasF l p := by unfold hasB' hasF; rw [plcB_ord ho]
theorem c_BinG (l : List Fil) (p : List UInt8) (hl : l.length ≤ 1048576) : PCtr PP n_slices_BinarySearchFunc_L_impl_File_impl_File_string [.sl false 2 (l.map (Fil.enc false)), str p, .clo n_impl_Disk_place_1 []] (.tup [i64 (plcB l p : Int), boo (hasB' l p)]) := by
  obtain ⟨Ω, hΩ⟩ : ∃ Ω, Ω = std := ⟨_, rfl⟩
  have hrun : ∀ f : Fil, PCtr PP (Ω.cloN n_impl_Disk_place_1) (Ω.cloA n_impl_Disk_place_1 [f.enc false, str p] []) (i64 (Lib.compareBytes f.p p)) := by subst hΩ; exact fun f => c_place1 f p
  obtain ⟨n, hn⟩ : ∃ n, n = l.length := ⟨_, rfl⟩
  obtain ⟨xs, hxs⟩ : ∃ xs, xs = l.map (Fil.enc false) := ⟨_, rfl⟩
  rw [← hxs]
  have hlen : Ω.int (Ω.len xs) = Ω.int n := by subst hΩ; show ((xs.length : Nat) : Int) = _; rw [hxs, List.length_map, hn]; rfl
  have hat : ∀ i c, l[i]? = some c → xs[(Ω.int i).toNat]? = some (c.enc false) := fun i c hc => (rdI hΩ hxs hc).trans rfl
  have hnl : ∀ i, i < n → ∃ c, l[i]? = some c := fun i hi => at_of (by omega)
  have hyes1 : ∀ j, plcB l p = j → ∀ c, l[j]? = some c → hasB' l p = decide (c.p = p) := fun j hpl c hc => by unfold hasB'; rw [hpl, hc]
  have hno1 : ∀ j, plcB l p = j → n ≤ j → hasB' l p = false := fun j hpl h => by unfold hasB'; rw [hpl, List.getElem?_eq_none (by omega)]
  have hpl0 : plcB l p = binG l p n 0 n := by unfold plcB; rw [hn]
  have hbl := @binG_lt l p
  have hbg := @binG_ge l p
  generalize hasB' l p = hs at *
  generalize plcB l p = pl at *
  generalize binG l p = bg at *
  have htab := tab
  have hmo := hmo
  refine PCtr.walk tab hΩ fn_slices_BinarySearchFunc_L_impl_File_impl_File_string rfl ?_
  generalize PP = P at *
  cbv
  refine loopX htab hΩ (fun i : Nat × Nat => ⟨[(0, .sl false 2 xs), (1, str p), (2, .clo n_impl_Disk_place_1 []), (8, i64 (Ω.int n)), (9, i64 (Ω.int i.1)), (10, i64 (Ω.int i.2))], 49, []⟩) (fun i => i.1 ≤ i.2 ∧ i.2 ≤ n ∧ ∃ k, i.2 - i.1 ≤ k ∧ pl = bg k i.1 i.2) (fun i => i.2 - i.1) (0, n) ⟨Nat.zero_le _, Nat.le_refl _, n, Nat.sub_le _ _, hpl0⟩
    (Sbs.mk rfl rfl ⟨rfl, rfl, rfl, congrArg i64 hlen, zeroI hΩ, congrArg i64 hlen, trivial⟩) ?_
  rintro ⟨i, j⟩ ⟨hij, hj, k, hk, hpk⟩
  dsimp only at *
  cbv
  refine br (fun h => ?_) (fun h => ?_) <;> cbv
  · have h := ltZt hΩ h
    have h : i < j := by subst hΩ; have h : (i : Int) < (j : Int) := h; omega
    obtain ⟨m, hm⟩ : ∃ m, m = (i + j) / 2 := ⟨_, rfl⟩
    have hmid := midI hΩ h (by omega)
    rw [← hm] at hmid
    have hm1 : i ≤ m := by omega
    have hm2 : m < j := by omega
    obtain ⟨c, hc⟩ := hnl m (by omega)
    obtain ⟨k, rfl⟩ : ∃ k', k = k' + 1 := ⟨k - 1, by omega⟩
    rw [hbl h hm hc] at hpk
    clear hm
    have hac := hat m c hc
    have hrc := hrun c
    generalize Lib.compareBytes c.p p = q at *
    unfold Fil.enc at hac hrc
    generalize c.d.map byteA = cd at *
    refine ⟨⟨by decide, by decide⟩, ⟨by show 0 ≤ Ω.wrap .i64 (Ω.ar .shr .u64 (Ω.wrap .u64 (Ω.ar .add .i64 (Ω.int i) (Ω.int j))) 1); rw [hmid]; exact nnI hΩ⟩, _, (by show xs[(Ω.wrap .i64 (Ω.ar .shr .u64 (Ω.wrap .u64 (Ω.ar .add .i64 (Ω.int i) (Ω.int j))) 1)).toNat]? = _; rw [hmid]; exact hac), ?_⟩
    cbv
    refine call_pure hΩ 4 hrc (ro_cloA hΩ rfl rfl) (fits _) rfl rfl ?_
    cbv
    refine br (fun g => ?_) (fun g => ?_) <;> cbv
    · have g := ltZt hΩ g
      exact ⟨(m + 1, j), ⟨by show m + 1 ≤ j; omega, hj, k, by show j - (m + 1) ≤ k; omega, by rw [hpk, if_pos g]⟩, by show j - (m + 1) < j - i; omega, Sbs.mk rfl rfl ⟨rfl, rfl, rfl, rfl, (congrArg (fun z => i64 (Ω.ar .add .i64 z 1)) hmid).trans (incI hΩ (by omega)), rfl, trivial⟩⟩
    · have g := ltZf hΩ g
      exact ⟨(i, m), ⟨hm1, by show m ≤ n; omega, k, by show m - i ≤ k; omega, by rw [hpk, if_neg (by omega)]⟩, by show m - i < j - i; omega, Sbs.mk rfl rfl ⟨rfl, rfl, rfl, rfl, rfl, congrArg i64 hmid, trivial⟩⟩
  · have h := ltZf hΩ h
    have h : j = i := by subst hΩ; have h : (j : Int) ≤ (i : Int) := h; omega
    subst h
    have hpl : pl = j := hpk.trans (hbg (Nat.le_refl _))
    have hic : i64 (Ω.int j) = i64 (pl : Int) := by rw [hpl]; subst hΩ; rfl
    have hyes := hyes1 j hpl
    have hno := hno1 j hpl
    refine br (fun g => ?_) (fun g => ?_) <;> cbv
    · have g := ltZt hΩ g
      have g : j < n := by subst hΩ; have g : (j : Int) < (n : Int) := g; omega
      obtain ⟨c, hc⟩ := hnl j g
      have hac := hat j c hc
      have hrc := hrun c
      have hyes := hyes c hc
      have hcz := cmpB_zero (x := c.p) (y := p)
      generalize Lib.compareBytes c.p p = q at *
      unfold Fil.enc at hac hrc
      generalize c.d.map byteA = cd at *
      refine ⟨⟨nnI hΩ⟩, _, hac, ?_⟩
      cbv
      refine call_pure hΩ 4 hrc (ro_cloA hΩ rfl rfl) (fits _) rfl rfl ?_
      cbv
      have hb : Ω.ite true (Ω.cmp .eql q 0) false = hs := by rw [hyes]; subst hΩ; exact decide_eq_decide.2 hcz
      exact .of (by show A.tup [i64 (Ω.int j), boo (Ω.ite true (Ω.cmp .eql q 0) false)] = _; rw [hb, hic]; rfl)
    · have g := ltZf hΩ g
      have g : n ≤ j := by subst hΩ; have g : (n : Int) ≤ (j : Int) := g; omega
      exact .of (by show A.tup [i64 (Ω.int j), boo false] = _; rw [hno g, hic]; rfl)
end Go.Proofs.YtljjcffnomdhhaaGreatDoor

/- Walks: a path's place and bytes. Plain theorems. -/
set_option linter.unusedVariables false
set_option linter.unusedSimpArgs false
namespace Go.Proofs.YtljjcffnomdhhaaGreatDoor
open Go Go.Fw
set_option maxRecDepth 100000
theorem c_placeB (x : Dsk) (p : List UInt8) (hl : x.f.length ≤ 1048576) : PCtr PP n_impl_Disk_place [x.enc false false, str p] (.tup [i64 (plcB x.f p : Int), boo (hasB' x.f p)]) := by
  obtain ⟨Ω, hΩ⟩ : ∃ Ω, Ω = std := ⟨_, rfl⟩
  have hb := c_BinG x.f p hl
  unfold Dsk.enc
  obtain ⟨l, v1, v2, v3, v4⟩ := x
  dsimp only at *
  generalize plcB l p = pl at *
  generalize hasB' l p = hs at *
  obtain ⟨z, hz⟩ : ∃ z : Int, (pl : Int) = z := ⟨_, rfl⟩
  rw [hz] at hb ⊢
  clear hz
  generalize l.map (Fil.enc false) = xs at *
  have htab := tab
  have hmo := hmo
  refine PCtr.walk tab hΩ fn_impl_Disk_place rfl ?_
  generalize PP = P at *
  cbv
  refine call_pure hΩ 4 hb rfl (fits _) rfl rfl ?_
  cbv
  exact .same
theorem c_place (x : Dsk) (p : List UInt8) (hl : x.f.length ≤ 1048576) (ho : ordF x.f) : PCtr PP n_impl_Disk_place [x.enc false false, str p] (.tup [i64 (plcF x.f p : Int), boo (hasF x.f p)]) := by
  have := c_placeB x p hl
  rw [plcB_ord ho, hasB_ord ho] at this
  exact this
/-- A path's bytes; none where it is not. -/
def datB (l : List Fil) (p : List UInt8) : List UInt8 := if hasB' l p then match l[plcB l p]? with | some f => f.d | none => [] else []
def datF (l : List Fil) (p : List UInt8) : List UInt8 := if hasF l p then match l[plcF l p]? with | some f => f.d | none => [] else []
theorem c_dataB (x : Dsk) (p : List UInt8) (hl : x.f.length ≤ 1048576) : PCtr PP n_impl_Disk_data [x.enc false false, str p] (.tup [.sl false 1 ((datB x.f p).map byteA), boo (hasB' x.f p)]) := by
  obtain ⟨Ω, hΩ⟩ : ∃ Ω, Ω = std := ⟨_, rfl⟩
  have hb := c_placeB x p hl
  unfold Dsk.enc at *
  obtain ⟨l, v1, v2, v3, v4⟩ := x
  dsimp only at *
  have hd0 : hasB' l p = false → datB l p = [] := fun h => by unfold datB; rw [h]; rfl
  have hd1 : hasB' l p = true → ∃ f, l[plcB l p]? = some f ∧ datB l p = f.d := fun h => by
    unfold datB
    rw [if_pos h]
    unfold hasB' at h
    cases hf : l[plcB l p]? with
    | none => rw [hf] at h; cases h
    | some f => exact ⟨f, rfl, rfl⟩
  obtain ⟨xs, hxs⟩ : ∃ xs, xs = l.map (Fil.enc false) := ⟨_, rfl⟩
  rw [← hxs] at hb ⊢
  have hat : ∀ (i : Nat) (c : Fil), l[i]? = some c → xs[((i : Int)).toNat]? = some (.agg [str c.p, .sl false 1 (c.d.map byteA)]) := fun i c hc => (rdI rfl hxs hc).trans rfl
  generalize datB l p = df at *
  generalize plcB l p = pl at *
  generalize hasB' l p = hs at *
  have hat := hat pl
  have hz0 : (0 : Int) ≤ (pl : Int) := by omega
  obtain ⟨z, hz⟩ : ∃ z : Int, (pl : Int) = z := ⟨_, rfl⟩
  rw [hz] at hb hat hz0
  clear hz
  obtain ⟨ds, hds⟩ : ∃ ds, ds = df.map byteA := ⟨_, rfl⟩
  rw [← hds]
  have htab := tab
  have hmo := hmo
  refine PCtr.walk tab hΩ fn_impl_Disk_data rfl ?_
  generalize PP = P at *
  cbv
  refine call_pure hΩ 4 hb rfl (fits _) rfl rfl ?_
  cbv
  refine br (fun h => ?_) (fun h => ?_) <;> cbv
  · have h := notA hΩ h
    rw [hd0 h] at hds
    rw [hds, h]
    exact ⟨2, ⟨rfl, rfl, trivial⟩⟩
  · have h := notB hΩ h
    obtain ⟨f, hf, hdf⟩ := hd1 h
    have hac := hat f hf
    rw [← hdf, ← hds] at hac
    refine ⟨⟨hz0⟩, _, hac, ?_⟩
    cbv
    exact .of (by rw [h])
theorem datB_ord {l : List Fil} (ho : ordF l) (p : List UInt8) : datB l p = datF l p := by unfold datB datF; rw [hasB_ord ho, plcB_ord ho]
theorem c_data (x : Dsk) (p : List UInt8) (hl : x.f.length ≤ 1048576) (ho : ordF x.f) : PCtr PP n_impl_Disk_data [x.enc false false, str p] (.tup [.sl false 1 ((datF x.f p).map byteA), boo (hasF x.f p)]) := by
  have := c_dataB x p hl
  rw [datB_ord ho, hasB_ord ho] at this
  exact this
end Go.Proofs.YtljjcffnomdhhaaGreatDoor

/- Plain laws of disks in order. -/
set_option linter.unusedVariables false
set_option linter.unusedSimpArgs false
namespace Go.Proofs.YtljjcffnomdhhaaGreatDoor
open Go Go.Fw
theorem leB_false {a b : List UInt8} (h : leB a b = false) : b < a := by
  unfold leB at h
  rw [Go.Proofs.bytesLess_eq] at h
  simp only [Bool.or_eq_false_iff, decide_eq_false_iff_not, beq_eq_false_iff_ne] at h
  exact (List.le_iff_lt_or_eq.1 (List.not_lt.1 h.1)).resolve_right fun e => h.2 e.symm
theorem filsF_ord : ∀ {l : List Fil} {q : Option (List UInt8)}, filsF q l = 0 → ordF l ∧ (∀ x, q = some x → ∀ f ∈ l, x < f.p) ∧ ∀ f ∈ l, pathF f.p = 0 ∧ f.d.length ≤ 4000
  | [], q, h => ⟨List.Pairwise.nil, by simp, by simp⟩
  | f :: fs, q, h => by
    rw [filsF] at h
    split at h
    · rename_i h0; exact absurd h h0
    · rename_i h0
      split at h
      · cases h
      · rename_i h1
        split at h
        · cases h
        · rename_i h2
          obtain ⟨i1, i2, i3⟩ := filsF_ord h
          have h0 : pathF f.p = 0 := by simpa using h0
          refine ⟨List.pairwise_cons.2 ⟨fun g hg => i2 _ rfl g hg, i1⟩, fun x hx g hg => ?_, fun g hg => ?_⟩
          · subst hx
            have : x < f.p := leB_false (by simpa using h1)
            rcases List.mem_cons.1 hg with rfl | hg
            · exact this
            · exact List.lt_trans this (i2 _ rfl g hg)
          · rcases List.mem_cons.1 hg with rfl | hg
            · exact ⟨h0, by omega⟩
            · exact i3 g hg
theorem plcF_cons (f : Fil) (l : List Fil) (p : List UInt8) : plcF (f :: l) p = if f.p < p then plcF l p + 1 else 0 := by
  unfold plcF
  by_cases h : f.p < p
  · rw [List.takeWhile_cons_of_pos (by simpa using h), if_pos h]; rfl
  · rw [List.takeWhile_cons_of_neg (by simpa using h), if_neg h]; rfl
theorem hasF_cons (f : Fil) (l : List Fil) (p : List UInt8) : hasF (f :: l) p = if f.p < p then hasF l p else decide (f.p = p) := by
  unfold hasF
  rw [plcF_cons]
  by_cases h : f.p < p
  · rw [if_pos h, if_pos h]; rfl
  · rw [if_neg h, if_neg h]; rfl
theorem hasF_gt : ∀ {l : List Fil} {p : List UInt8}, (∀ f ∈ l, p < f.p) → hasF l p = false
  | [], _, _ => rfl
  | f :: l, p, h => by
    have h1 := h f (by simp)
    rw [hasF_cons, if_neg (List.lt_asymm h1)]
    exact decide_eq_false fun e => by subst e; exact List.lt_irrefl _ h1
theorem fndF_of : ∀ {l : List Fil} {p : List UInt8} {i : Nat}, ordF l → idxFrom (fun f : Fil => decide (f.p = p)) i l = if hasF l p then ((i + plcF l p : Nat) : Int) else -1
  | [], _, _, _ => rfl
  | f :: l, p, i, h => by
    obtain ⟨h1, h2⟩ := List.pairwise_cons.1 h
    rw [idxFrom, hasF_cons, plcF_cons, fndF_of h2]
    by_cases hp : f.p = p
    · have hn : ¬ f.p < p := by subst hp; exact List.lt_irrefl _
      rw [if_neg hn, if_neg hn, decide_eq_true hp]; simp
    · by_cases hl : f.p < p
      · simp only [hp, hl, decide_false, if_true, Bool.false_eq_true, if_false]
        have : i + 1 + plcF l p = i + (plcF l p + 1) := by omega
        rw [this]
      · have hg : p < f.p := (List.le_iff_lt_or_eq.1 (List.not_lt.1 hl)).resolve_right fun e => hp e.symm
        rw [hasF_gt fun g hg' => List.lt_trans hg (h1 g hg')]
        simp [hp, hl]
end Go.Proofs.YtljjcffnomdhhaaGreatDoor

/- Which paths are numbers' paths. Plain theorems. -/
set_option linter.unusedVariables false
set_option linter.unusedSimpArgs false
namespace Go.Proofs.YtljjcffnomdhhaaGreatDoor
open Go Go.Fw
set_option maxRecDepth 100000
/-- What the spec writes for any number. -/
def genS (n : Int) : List UInt8 := if inB n 1 999999 then genB n else []
theorem c_GenPathS (n : Int) : PCtr PP n_spec_GenPath [i64 n] (str (genS n)) := by
  by_cases hn : inB n 1 999999 = true
  · have h := hn
    unfold inB at h
    simp at h
    have := c_GenPath n (by omega) (by omega)
    unfold genS
    rw [if_pos hn]
    exact this
  · have hin := c_l1In n 1 999999
    unfold genS
    rw [if_neg hn]
    rw [Bool.eq_false_iff.2 hn] at hin
    obtain ⟨Ω, hΩ⟩ : ∃ Ω, Ω = std := ⟨_, rfl⟩
    clear hn
    have htab := tab
    have hmo := hmo
    refine PCtr.walk tab hΩ fn_spec_GenPath rfl ?_
    generalize PP = P at *
    cbv
    refine call_pure hΩ 3 hin rfl (fits _) rfl rfl ?_
    cbv
    refine br (fun h => ?_) (fun h => (notF hΩ h).elim)
    cbv
    exact .same
/-- The number a path tells. -/
def genV (s : List UInt8) : Int := numM 6 (s.drop 4)
def isG (s : List UInt8) : Bool := decide (1 ≤ genV s) && decide (s.length = 10)
theorem beg_split {s : List UInt8} (h : begB genH s = true) : s = genH ++ s.drop 4 := by
  rw [begB_eq, decide_eq_true_eq] at h
  have h2 : s.take 4 = genH := h.2
  rw [← h2, List.take_append_drop]
theorem genB_len (n : Int) : (genB n).length = 10 := by unfold genB; rw [List.length_append, digs_len]; rfl
/-- The spec's question at a path and the implementation's agree. -/
theorem isG_eq {s : List UInt8} (h : begB genH s = true) : isG s = (decide (0 ≤ genV s) && decide (genS (if genV s < 0 then 0 else genV s) = s)) := by
  have hs := beg_split h
  have hl4 : 4 ≤ s.length := by rw [hs, List.length_append]; show 4 ≤ 4 + _; omega
  rw [Bool.eq_iff_iff]
  unfold isG
  simp only [Bool.and_eq_true, decide_eq_true_eq]
  constructor
  · rintro ⟨h1, h2⟩
    refine ⟨by omega, ?_⟩
    rw [if_neg (by omega)]
    have hl : (s.drop 4).length = 6 := by rw [List.length_drop]; omega
    have hv : genV s = numL (s.drop 4) 0 := by unfold genV numM; rw [if_neg (by rw [hl]; omega)]
    rw [hv] at h1 ⊢
    obtain ⟨m, e1, e2, e3⟩ := digs_numL (s.drop 4) 0 0 (by show 0 ≤ numL (s.drop 4) 0; omega)
    have e1 : numL (s.drop 4) 0 = (m : Int) := e1
    rw [hl] at e2 e3
    rw [e1] at h1 ⊢
    have e2 : digs 6 m = s.drop 4 := by simpa [digs] using e2
    have hin : inB (m : Int) 1 999999 = true := by unfold inB; simp; omega
    unfold genS genB
    rw [if_pos hin]
    show genH ++ digs 6 m = s
    rw [e2, ← hs]
  · rintro ⟨h1, h2⟩
    rw [if_neg (by omega)] at h2
    unfold genS at h2
    split at h2
    · rename_i hin
      unfold inB at hin
      simp at hin
      refine ⟨by omega, ?_⟩
      rw [← h2]; exact genB_len _
    · rw [← h2] at hl4; simp at hl4
/-- The numbers that files' paths tell. -/
def gensF (l : List Fil) : List Int := ((pathsF l genH).filter isG).map genV
end Go.Proofs.YtljjcffnomdhhaaGreatDoor

/- Walks: numbers' lists, one behind another. Plain theorems. -/
set_option linter.unusedVariables false
set_option linter.unusedSimpArgs false
namespace Go.Proofs
open Go.Shelf

end Go.Proofs
namespace Go.Proofs.YtljjcffnomdhhaaGreatDoor
open Go Go.Fw Go.Proofs
set_option maxRecDepth 100000
theorem frz_S (l : List (List UInt8)) : (l.map str).map frz = l.map str := by rw [List.map_map]; exact List.map_congr_left fun c _ => rfl
theorem roF_S (l : List (List UInt8)) : roFree (.sl true 1 (l.map str)) = true := roFAll fun x hx => by obtain ⟨c, _, rfl⟩ := List.mem_map.1 hx; rfl
end Go.Proofs.YtljjcffnomdhhaaGreatDoor

/- Walks: the numbers of a disk's files. Plain theorems. -/
set_option linter.unusedVariables false
set_option linter.unusedSimpArgs false
namespace Go.Proofs.YtljjcffnomdhhaaGreatDoor
open Go Go.Fw
set_option maxRecDepth 100000
/-- A list that grows at its end, in cells. -/
structure Grw (Ω : Opq) {α : Type} (f : α → A) (F : List α → List A) : Prop where
  nil : F [] = []
  eq : ∀ l, l.map f = F l
  len : ∀ l, (F l).length = l.length
  app : ∀ l x, Ω.app (Ω.take (Ω.len (F l)) (F l)) [f x] = F (l ++ [x])
  plus : ∀ l x, Ω.plus (Ω.len (F l)) (Ω.len [f x]) = Ω.len (F (l ++ [x]))
  lo : ∀ l, Ω.len (F l) = (F l).length
  le : ∀ l, Ω.len (F l) ≤ (F l).length
  tk : ∀ l, Ω.take (Ω.len (F l)) (F l) = F l
  z : Ω.len (F []) = 0
theorem grw {Ω : Opq} (hΩ : Ω = std) {α : Type} (f : α → A) : ∃ F, Grw Ω f F := by
  subst hΩ
  refine ⟨fun l => l.map f, rfl, fun _ => rfl, fun _ => List.length_map _, fun l x => ?_, fun l x => ?_, fun _ => rfl, fun _ => Nat.le_refl _, fun _ => List.take_length, rfl⟩
  · rw [takeAll rfl, List.map_append]; rfl
  · rw [List.map_append]; exact (List.length_append).symm
theorem gensF_at {ps : List (List UInt8)} {i : Nat} {s : List UInt8} (h : ps[i]? = some s) : ((ps.take (i + 1)).filter isG).map genV = ((ps.take i).filter isG).map genV ++ (if isG s then [genV s] else []) := by
  rw [List.take_add_one, h, List.filter_append, List.map_append]
  cases hb : isG s <;> simp [hb]
theorem pathsF_mem {l : List Fil} {p s : List UInt8} (h : s ∈ pathsF l p) : begB p s = true ∧ ∃ f ∈ l, f.p = s := by
  unfold pathsF at h
  rw [List.mem_filter, List.mem_map] at h
  exact ⟨h.2, h.1⟩
theorem c_gens (x : Dsk) (hl : x.f.length ≤ 1048576) (hp : ∀ f ∈ x.f, f.p.length ≤ 1048576) : PCtr PP n_impl_Disk_gens [x.enc false false] (.sl true 1 ((gensF x.f).map i64)) := by
  obtain ⟨Ω, hΩ⟩ : ∃ Ω, Ω = std := ⟨_, rfl⟩
  have hcp := c_paths x genH hl
  have hgl := pathsF_len x.f genH
  have hpm : ∀ s ∈ pathsF x.f genH, 4 ≤ s.length ∧ s.length ≤ 1048576 := fun s hs => by
    obtain ⟨h1, f, hf, rfl⟩ := pathsF_mem hs
    refine ⟨?_, hp f hf⟩
    rw [beg_split h1, List.length_append]; show 4 ≤ 4 + _; omega
  unfold gensF
  generalize pathsF x.f genH = ps at *
  have hpl : ps.length ≤ 1048576 := by omega
  have hnum : ∀ s : List UInt8, s.length ≤ 1048576 → PCtr PP n_impl_number [str (s.drop 4), i64 6] (i64 (genV s)) := fun s hs => c_numberM 6 (by decide) (s.drop 4) (by rw [List.length_drop]; omega)
  have hsg : ∀ s : List UInt8, Ω.segS (Ω.nat 4) (Ω.lenS s) s = s.drop 4 := fun s => by subst hΩ; show (s.take s.length).drop 4 = _; rw [List.take_length]
  obtain ⟨W, hW⟩ : ∃ W : Nat → List Int, W = fun i => ((ps.take i).filter isG).map genV := ⟨_, rfl⟩
  have hWs : ∀ i s, ps[i]? = some s → W (i + 1) = W i ++ (if isG s then [genV s] else []) := fun i s h => by rw [hW]; exact gensF_at h
  have hW0 : W 0 = [] := by rw [hW]; rfl
  have hWl : ∀ i, (W i).length ≤ i := fun i => by rw [hW]; dsimp only; rw [List.length_map]; exact Nat.le_trans (List.length_filter_le _ _) (by rw [List.length_take]; omega)
  have hWn : (ps.filter isG).map genV = W ps.length := by rw [hW]; dsimp only; rw [List.take_length]
  rw [hWn]
  clear hW hWn
  obtain ⟨F, hF⟩ := grw hΩ i64
  rw [hF.eq]
  have hgq : ∀ s, isG s = (decide (1 ≤ genV s) && decide (s.length = 10)) := fun s => rfl
  obtain ⟨q, hq⟩ : ∃ q, q = ps.map str := ⟨_, rfl⟩
  have hqf : roFree (.sl true 1 q) = true := by rw [hq]; exact roF_S ps
  have hqz : frz (.sl true 1 q) = .sl false 1 q := by rw [frz_sl, hq, frz_S]
  have hql : q.length = ps.length := by rw [hq, List.length_map]
  have hqq := hq
  rw [← hq] at hcp
  unfold Dsk.enc at hcp ⊢
  unfold genH at hcp
  obtain ⟨l, v1, v2, v3, v4⟩ := x
  dsimp only at *
  clear hq
  generalize l.map (Fil.enc false) = xs at *
  generalize genV = V at *
  generalize isG = B at *
  have htab := tab
  have hmo := hmo
  refine PCtr.walk tab hΩ fn_impl_Disk_gens rfl ?_
  generalize PP = P at *
  cbv
  refine call_pf hΩ 4 hcp rfl (fits _) hqf hqz rfl ?_
  cbv
  refine loopX htab hΩ (fun i : Nat => ⟨[(3, .vw 1 0 (Ω.len (F (W i)))), (9, .sl false 1 q), (10, i64 (Ω.int (Ω.len q))), (11, i64 (Ω.int i))], 31, [none, some ⟨1, F (W i), false⟩]⟩) (fun i => i ≤ ps.length) (fun i => ps.length - i) 0 (Nat.zero_le _)
    ?enter (fun i hi => ?_)
  case enter => exact ((Sbs.unlk (r := 0) rfl rfl).trans (Sbs.thaw0 (r := 0) rfl rfl rfl)).trans (Sbs.mk rfl (by dsimp only; rw [hW0, hF.nil]; rfl) ⟨by dsimp only; rw [hW0, hF.z]; rfl, rfl, rfl, zeroI hΩ, trivial⟩)
  have hol := hF.len (W i)
  have hlo := hF.lo (W i)
  have hle := hF.le (W i)
  have htk := hF.tk (W i)
  have hwi := hWl i
  cbv
  refine br (fun h => ?_) (fun h => ?_) <;> cbv
  · replace h := ltI hΩ h
    obtain ⟨s, hs⟩ := at_of (cs := ps) (by omega : i < _)
    have hst := hWs i s hs
    have hap0 := hF.app (W i) (V s)
    have hpl0 := hF.plus (W i) (V s)
    have hsl := hpm s (List.mem_of_getElem? hs)
    have hcn := hnum s hsl.2
    have hsg := hsg s
    have hgs := hgq s
    generalize V s = n at *
    generalize B s = b at *
    refine ⟨⟨nnI hΩ⟩, _, rdI hΩ hqq hs, ?_⟩
    cbv
    refine ⟨⟨by decide, trivial, by subst hΩ; exact hsl.1, by subst hΩ; exact Nat.le_refl _⟩, ?_⟩
    refine call_pure hΩ 3 hcn rfl (by show fitA.fitL 3 [str (Ω.segS (Ω.nat 4) (Ω.lenS s) s), i64 6] _; rw [hsg]; exact fits _) rfl rfl ?_
    cbv
    have hb : decide (1 ≤ n) = true → decide (s.length = 10) = true → b = true := fun h1 h2 => by rw [hgs, h1, h2]; rfl
    have hb0 : decide (1 ≤ n) = false → b = false := fun h1 => by rw [hgs, h1]; rfl
    have hb1 : decide (s.length = 10) = false → b = false := fun h1 => by rw [hgs, h1, Bool.and_false]
    clear hgs
    have keep : b = false → W (i + 1) = W i := fun h => by rw [hst, h]; simp
    have grow : b = true → W (i + 1) = W i ++ [n] := fun h => by rw [hst, h]; simp
    clear hst
    have skip : b = false → i + 1 ≤ ps.length ∧ ps.length - (i + 1) < ps.length - i ∧ W (i + 1) = W i := fun h => ⟨by omega, by omega, keep h⟩
    have i1 : i + 1 ≤ ps.length := by omega
    have i2 : ps.length - (i + 1) < ps.length - i := by omega
    have i3 : i64 (Ω.ar .add .i64 (Ω.int i) 1) = i64 (Ω.int (i + 1)) := incI hΩ (by omega)
    refine br (fun g => ?_) (fun g => ?_) <;> cbv
    · replace g := geI_t hΩ g
      refine br (fun k => ?_) (fun k => ?_) <;> cbv
      · replace k := eqZt hΩ (iteA hΩ k)
        have k : s.length = 10 := by subst hΩ; have k : (s.length : Int) = 10 := k; omega
        have hb := grow (hb (decide_eq_true g) (decide_eq_true k))
        exact ⟨⟨rfl, okAll rfl, by show (Ω.len (F (W i)) + 1) * 8 ≤ 140737488355328; omega, by show Ω.len (F (W i)) + 1 ≤ 9223372036854775807; omega⟩,
          i + 1, i1, i2, (Sbs.cut 2 rfl).trans (Sbs.mk rfl (by show [none, some (Row.mk 1 (Ω.app (Ω.take (Ω.len (F (W i))) (F (W i))) [i64 n]) false)] = _; rw [hap0, hb]) ⟨congrArg (A.vw 1 0) (by rw [hb]; exact hpl0), rfl, rfl, i3, trivial⟩)⟩
      · replace k := eqZf hΩ (iteA hΩ k)
        have k : s.length ≠ 10 := by subst hΩ; have k : ¬ (s.length : Int) = 10 := k; omega
        have hb := keep (hb1 (decide_eq_false k))
        exact ⟨i + 1, i1, i2, (Sbs.cut 2 rfl).trans (Sbs.mk rfl (by rw [hb]; rfl) ⟨by rw [hb]; rfl, rfl, rfl, i3, trivial⟩)⟩
    · replace g := geI_f hΩ g
      have hb := keep (hb0 (decide_eq_false (by omega)))
      exact ⟨i + 1, i1, i2, (Sbs.cut 2 rfl).trans (Sbs.mk rfl (by rw [hb]; rfl) ⟨by rw [hb]; rfl, rfl, rfl, i3, trivial⟩)⟩
  · replace h := geI hΩ h
    obtain rfl : i = ps.length := by omega
    exact ⟨⟨rfl, hle⟩, .of (congrArg (A.sl true 1) htk)⟩
theorem c_l8Gens (x : Dsk) (hl : x.f.length ≤ 1048576) (hp : ∀ f ∈ x.f, f.p.length ≤ 1048576) : PCtr PP n_spec_l8Gens [x.see] (.sl true 1 ((gensF x.f).map i64)) := by
  obtain ⟨Ω, hΩ⟩ : ∃ Ω, Ω = std := ⟨_, rfl⟩
  have hcp := c_l7Paths x genH hl
  have hgl := pathsF_len x.f genH
  have hpm : ∀ s ∈ pathsF x.f genH, 4 ≤ s.length ∧ s.length ≤ 1048576 ∧ isG s = (decide (0 ≤ genV s) && decide (genS (if genV s < 0 then 0 else genV s) = s)) := fun s hs => by
    obtain ⟨h1, f, hf, rfl⟩ := pathsF_mem hs
    refine ⟨?_, hp f hf, isG_eq h1⟩
    rw [beg_split h1, List.length_append]; show 4 ≤ 4 + _; omega
  unfold gensF
  generalize pathsF x.f genH = ps at *
  have hpl : ps.length ≤ 1048576 := by omega
  have hnum : ∀ s : List UInt8, s.length ≤ 1048576 → PCtr PP n_spec_l1Number [str (s.drop 4), i64 6] (.tup [i64 (if genV s < 0 then 0 else genV s), boo (decide (0 ≤ genV s))]) := fun s hs => c_l1NumberM 6 (by decide) (s.drop 4) (by rw [List.length_drop]; omega)
  have hgp := c_GenPathS
  have hsg : ∀ s : List UInt8, Ω.segS (Ω.nat 4) (Ω.lenS s) s = s.drop 4 := fun s => by subst hΩ; show (s.take s.length).drop 4 = _; rw [List.take_length]
  obtain ⟨W, hW⟩ : ∃ W : Nat → List Int, W = fun i => ((ps.take i).filter isG).map genV := ⟨_, rfl⟩
  have hWs : ∀ i s, ps[i]? = some s → W (i + 1) = W i ++ (if isG s then [if genV s < 0 then 0 else genV s] else []) := fun i s h => by
    have h1 := hpm s (List.mem_of_getElem? h)
    rw [hW]; dsimp only; rw [gensF_at h]
    by_cases hb : isG s = true
    · have : 0 ≤ genV s := by rw [h1.2.2] at hb; simp at hb; exact hb.1
      rw [if_pos hb, if_pos hb, if_neg (show ¬ genV s < 0 by omega)]
    · rw [if_neg hb, if_neg hb]
  have hW0 : W 0 = [] := by rw [hW]; rfl
  have hWl : ∀ i, (W i).length ≤ i := fun i => by rw [hW]; dsimp only; rw [List.length_map]; exact Nat.le_trans (List.length_filter_le _ _) (by rw [List.length_take]; omega)
  have hWn : (ps.filter isG).map genV = W ps.length := by rw [hW]; dsimp only; rw [List.take_length]
  rw [hWn]
  clear hW hWn
  obtain ⟨F, hF⟩ := grw hΩ i64
  rw [hF.eq]
  obtain ⟨q, hq⟩ : ∃ q, q = ps.map str := ⟨_, rfl⟩
  have hqf : roFree (.sl true 1 q) = true := by rw [hq]; exact roF_S ps
  have hqz : frz (.sl true 1 q) = .sl false 1 q := by rw [frz_sl, hq, frz_S]
  have hql : q.length = ps.length := by rw [hq, List.length_map]
  have hqq := hq
  rw [← hq] at hcp
  unfold Dsk.see at hcp ⊢
  unfold genH at hcp
  obtain ⟨l, v1, v2, v3, v4⟩ := x
  dsimp only at *
  clear hq
  generalize l.map (Fil.enc false) = xs at *
  obtain ⟨V, hV⟩ : ∃ V : List UInt8 → Int, ∀ s, V s = if genV s < 0 then 0 else genV s := ⟨_, fun _ => rfl⟩
  obtain ⟨D, hD⟩ : ∃ D : List UInt8 → Bool, ∀ s, D s = decide (0 ≤ genV s) := ⟨_, fun _ => rfl⟩
  simp only [← hV, ← hD] at hWs hnum hpm
  clear hV hD
  generalize isG = B at *
  generalize genS = Q at *
  have htab := tab
  have hmo := hmo
  refine PCtr.walk tab hΩ fn_spec_l8Gens rfl ?_
  generalize PP = P at *
  cbv
  refine call_pf hΩ 4 hcp rfl (fits _) hqf hqz rfl ?_
  cbv
  refine loopX htab hΩ (fun i : Nat => ⟨[(0, .rp [.sl false 2 xs, i64 v1, i64 v2, i64 v3, boo v4]), (3, .vw 0 0 (Ω.len (F (W i)))), (4, .sl false 1 q), (5, i64 (Ω.int i))], 41, [some ⟨1, F (W i), false⟩]⟩) (fun i => i ≤ ps.length) (fun i => ps.length - i) 0 (Nat.zero_le _)
    ?enter (fun i hi => ?_)
  case enter => exact Sbs.mk rfl (by dsimp only; rw [hW0, hF.nil]) ⟨rfl, by dsimp only; rw [hW0, hF.z]; rfl, rfl, zeroI hΩ, trivial⟩
  have hol := hF.len (W i)
  have hlo := hF.lo (W i)
  have hle := hF.le (W i)
  have htk := hF.tk (W i)
  have hwi := hWl i
  cbv
  refine br (fun h => ?_) (fun h => ?_) <;> cbv
  · replace h := ltI hΩ h
    obtain ⟨s, hs⟩ := at_of (cs := ps) (by omega : i < _)
    have hst := hWs i s hs
    have hap0 := hF.app (W i) (V s)
    have hpl0 := hF.plus (W i) (V s)
    obtain ⟨hs4, hsl, hgs⟩ := hpm s (List.mem_of_getElem? hs)
    have hcn := hnum s hsl
    have hgp := hgp (V s)
    have hsg := hsg s
    generalize hqs : Q (V s) = z at *
    generalize V s = n at *
    generalize D s = d at *
    generalize B s = b at *
    have i1 : i + 1 ≤ ps.length := by omega
    have i2 : ps.length - (i + 1) < ps.length - i := by omega
    have i3 : i64 (Ω.ar .add .i64 (Ω.int i) 1) = i64 (Ω.int (i + 1)) := incI hΩ (by omega)
    have grow : d = true → z = s → W (i + 1) = W i ++ [n] := fun h1 h2 => by rw [hst, hgs, h1, h2]; simp
    have keep0 : d = false → W (i + 1) = W i := fun h1 => by rw [hst, hgs, h1]; simp
    have keep1 : ¬ z = s → W (i + 1) = W i := fun h1 => by rw [hst, hgs]; simp [h1]
    clear hst hgs
    refine ⟨⟨nnI hΩ⟩, _, rdI hΩ hqq hs, ?_⟩
    cbv
    refine ⟨⟨by decide, trivial, by subst hΩ; exact hs4, by subst hΩ; exact Nat.le_refl _⟩, ?_⟩
    refine call_pure hΩ 3 hcn rfl (by show fitA.fitL 3 [str (Ω.segS (Ω.nat 4) (Ω.lenS s) s), i64 6] _; rw [hsg]; exact fits _) rfl rfl ?_
    cbv
    refine ⟨VC_drawn htab hΩ hmo (by kernel_rfl) ?_⟩
    cbv
    refine br (fun g => ?_) (fun g => ?_) <;> cbv
    · refine QCall_pure (k := 3) hgp rfl (fits _) rfl ?_
      cbv
      refine ⟨⟨nnI hΩ⟩, _, rdI hΩ hqq hs, ?_⟩
      cbv
      refine br (fun k => ?_) (fun k => ?_) <;> cbv
      · have hb := grow g (eqSt hΩ (iteA hΩ k))
        exact ⟨⟨rfl, okAll rfl, by show (Ω.len (F (W i)) + 1) * 8 ≤ 140737488355328; omega, by show Ω.len (F (W i)) + 1 ≤ 9223372036854775807; omega⟩,
          i + 1, i1, i2, (Sbs.cut 1 rfl).trans (Sbs.mk rfl (by show [some (Row.mk 1 (Ω.app (Ω.take (Ω.len (F (W i))) (F (W i))) [i64 n]) false)] = _; rw [hap0, hb]) ⟨rfl, congrArg (A.vw 0 0) (by rw [hb]; exact hpl0), rfl, i3, trivial⟩)⟩
      · have hb := keep1 (eqSf hΩ (iteA hΩ k))
        exact ⟨i + 1, i1, i2, (Sbs.cut 1 rfl).trans (Sbs.mk rfl (by rw [hb]; rfl) ⟨rfl, by rw [hb]; rfl, rfl, i3, trivial⟩)⟩
    · have hb := keep0 g
      exact ⟨i + 1, i1, i2, (Sbs.cut 1 rfl).trans (Sbs.mk rfl (by rw [hb]; rfl) ⟨rfl, by rw [hb]; rfl, rfl, i3, trivial⟩)⟩
  · replace h := geI hΩ h
    obtain rfl : i = ps.length := by omega
    exact ⟨⟨rfl, hle⟩, .of (congrArg (A.sl true 1) htk)⟩
end Go.Proofs.YtljjcffnomdhhaaGreatDoor

/- Walks: a disk's present number. Plain theorems. -/
set_option linter.unusedVariables false
set_option linter.unusedSimpArgs false
namespace Go.Proofs.YtljjcffnomdhhaaGreatDoor
open Go Go.Fw
set_option maxRecDepth 100000
/-- A disk whose parts may be counted. -/
structure Dsk.Fit (x : Dsk) : Prop where
  n : x.f.length ≤ 1048576
  p : ∀ f ∈ x.f, f.p.length ≤ 1048576
  d : ∀ f ∈ x.f, f.d.length ≤ 1048576
  t : totL x.f ≤ 1099511627776
/-- A sound disk. -/
structure Dsk.Ok (x : Dsk) : Prop extends x.Fit where
  o : ordF x.f
  pf : ∀ f ∈ x.f, pathF f.p = 0
  d4 : ∀ f ∈ x.f, f.d.length ≤ 4000
  n120 : x.f.length ≤ 120
  bg : inB x.bg 0 20000 = true
  wr : inB x.wr 0 1000000000 = true
  st : inB x.st (-1) 1000000000 = true
  tt : (totL x.f : Int) ≤ x.bg
theorem Dsk.Fit.ok {x : Dsk} (h : x.Fit) (hf : dskF x = 0) : x.Ok := by
  unfold dskF at hf
  split at hf
  · cases hf
  · rename_i h1
    split at hf
    · cases hf
    · rename_i h2
      split at hf
      · rename_i h3; exact absurd hf h3
      · rename_i h3
        split at hf
        · cases hf
        · rename_i h4
          obtain ⟨h5, -, h6⟩ := filsF_ord (by simpa using h3)
          simp at h1
          exact ⟨h, h5, fun f hf => (h6 f hf).1, fun f hf => (h6 f hf).2, by omega, h1.1, h1.2.1, h1.2.2, by omega⟩
theorem datF_len {l : List Fil} {n : Nat} (h : ∀ f ∈ l, f.d.length ≤ n) (p : List UInt8) : (datF l p).length ≤ n := by
  unfold datF
  split
  · split
    · rename_i f hf; exact h f (List.mem_of_getElem? hf)
    · exact Nat.zero_le _
  · exact Nat.zero_le _
theorem gensF_len (l : List Fil) : (gensF l).length ≤ l.length := by
  unfold gensF
  rw [List.length_map]
  exact Nat.le_trans (List.length_filter_le _ _) (pathsF_len _ _)
theorem gensF_ge {l : List Fil} {n : Int} (h : n ∈ gensF l) : 1 ≤ n ∧ n ≤ 999999 := by
  unfold gensF at h
  obtain ⟨s, hs, rfl⟩ := List.mem_map.1 h
  obtain ⟨hs, hg⟩ := List.mem_filter.1 hs
  have hb := (pathsF_mem hs).1
  have h1 := isG_eq hb
  rw [hg] at h1
  have h1 := h1.symm
  simp only [Bool.and_eq_true, decide_eq_true_eq] at h1
  rw [if_neg (by omega)] at h1
  have h2 := h1.2
  unfold genS at h2
  split at h2
  · rename_i hin
    unfold inB at hin
    simp at hin
    exact hin
  · have := beg_split hb
    rw [← h2] at this
    simp [genH] at this
def curP : List UInt8 := [99, 117, 114]
end Go.Proofs.YtljjcffnomdhhaaGreatDoor

/- Walks: sizes of disks. Plain theorems. -/
set_option linter.unusedVariables false
set_option linter.unusedSimpArgs false
namespace Go.Proofs.YtljjcffnomdhhaaGreatDoor
open Go Go.Fw
set_option maxRecDepth 100000
def szF (f : Fil) (l : Int) : Int := if szN f.p.length l < 0 then -1 else if szN f.d.length (szN f.p.length l) < 0 then -1 else szN f.d.length (szN f.p.length l)
def cF (f : Fil) : Nat := f.p.length + f.d.length
theorem szF_cost : Costs szF cF := fun o l => by
  unfold szF cF szN
  generalize o.p.length = a
  generalize o.d.length = b
  repeat' split
  all_goals omega
/-- What can stand in memory. -/
structure Fil.Fit (f : Fil) : Prop where
  p : f.p.length ≤ maxLen
  d : f.d.length ≤ maxLen
theorem c_szByteS (d : List UInt8) (l : Int) (h0 : 0 ≤ l) (h1 : l ≤ 1048576) (hm : d.length ≤ maxLen) : PCtr PP n_laws_szByteS [.sl false 1 (d.map byteA), i64 l] (i64 (szN d.length l)) := by
  obtain ⟨Ω, hΩ⟩ : ∃ Ω, Ω = std := ⟨_, rfl⟩
  obtain ⟨r, hr⟩ : ∃ r, r = szN d.length l := ⟨_, rfl⟩
  rw [← hr]
  unfold szN at hr
  have hw := szN_w h0 h1 hm
  obtain ⟨xs, hxs⟩ : ∃ xs, xs = d.map byteA := ⟨_, rfl⟩
  have hlen : xs.length = d.length := by rw [hxs, List.length_map]
  rw [← hxs]
  have hs : Ω.ar .sub .i64 l (Ω.int (Ω.len xs)) = l - d.length := by subst hΩ; rw [← hw]; show IntKind.i64.wrap (l - (xs.length : Int)) = _; rw [hlen]
  generalize (l - d.length : Int) = m at *
  have htab := tab
  refine PCtr.walk tab hΩ fn_laws_szByteS rfl ?_
  generalize PP = P at *
  cbv
  refine br (fun h => ?_) (fun h => ?_) <;> cbv
  · have h := ltI_t hΩ h
    have h : m < 0 := by rw [← hs]; exact h
    exact .of (congrArg i64 (by rw [hr, if_pos h]))
  · have h := ltI_f hΩ h
    have h : 0 ≤ m := by rw [← hs]; exact h
    exact .of (congrArg i64 (by rw [hr, if_neg (by omega)]; exact hs))
theorem c_szFile (o : Fil) (l : Int) (h0 : 0 ≤ l) (h1 : l ≤ 1048576) (hm : o.Fit) : PCtr PP n_laws_szFile [o.enc false, i64 l] (i64 (szF o l)) := by
  obtain ⟨Ω, hΩ⟩ : ∃ Ω, Ω = std := ⟨_, rfl⟩
  obtain ⟨r, hr⟩ : ∃ r, r = szF o l := ⟨_, rfl⟩
  rw [← hr]
  have hw := szN_w h0 h1 hm.p
  have k1 : ∀ l, 0 ≤ l → l ≤ 1048576 → PCtr PP n_laws_szByteS [.sl false 1 (o.d.map byteA), i64 l] (i64 (szN o.d.length l)) := fun l a b => c_szByteS o.d l a b hm.d
  unfold szF at hr
  unfold Fil.enc
  generalize o.d.map byteA = ds at *
  obtain ⟨nc, hnc⟩ : ∃ nc : Int, (o.p.length : Int) = nc := ⟨_, rfl⟩
  have hn0 : 0 ≤ nc := by omega
  rw [show szN o.p.length l = if l - o.p.length < 0 then -1 else l - o.p.length from rfl, hnc] at hr
  have hst : Ω.ar .sub .i64 l (Ω.int (Ω.lenS o.p)) = IntKind.i64.wrap (l - nc) := by subst hΩ; rw [← hnc]; rfl
  rw [hnc] at hw
  rw [hw] at hst
  generalize szN o.d.length = f1 at *
  have htab := tab
  refine PCtr.walk tab hΩ fn_laws_szFile rfl ?_
  generalize PP = P at *
  cbv
  refine br (fun h => ?_) (fun h => ?_) <;> cbv
  · refine .of (congrArg i64 ?_)
    have h : l - nc < 0 := by rw [← hst]; exact ltI_t hΩ h
    rw [hr, if_pos h]; rfl
  obtain ⟨l1, hl1, q0, q1, hr⟩ : ∃ l1, Ω.ar .sub .i64 l (Ω.int (Ω.lenS o.p)) = l1 ∧ 0 ≤ l1 ∧ l1 ≤ 1048576 ∧ r = if f1 l1 < 0 then -1 else f1 l1 := by
    have h : 0 ≤ l - nc := by rw [← hst]; exact ltI_f hΩ h
    have e : (if l - nc < 0 then -1 else l - nc) = l - nc := if_neg (by omega)
    refine ⟨l - nc, hst, h, by omega, ?_⟩
    rw [hr]
    simp only [e]
    rw [if_neg (by omega)]
  have k1' : PCtr P n_laws_szByteS [.sl false 1 ds, i64 (Ω.ar .sub .i64 l (Ω.int (Ω.lenS o.p)))] (i64 (f1 l1)) := by rw [hl1]; exact k1 l1 q0 q1
  generalize f1 l1 = a1 at *
  refine call_pure hΩ 3 k1' rfl (fits _) rfl rfl ?_
  cbv
  refine br (fun h => ?_) (fun h => ?_) <;> cbv
  · exact .of (congrArg i64 (by rw [hr, if_pos (ltI_t hΩ h)]))
  have h := ltI_f hΩ h
  rw [if_neg (by omega)] at hr
  exact .of (congrArg i64 hr.symm)
theorem c_szFileS (cs : List (Fil)) (l : Int) (h0 : 0 ≤ l) (h1 : l ≤ 1048576) (hm : cs.length ≤ maxLen) (hc : ∀ c ∈ cs, c.Fit) : PCtr PP n_laws_szFileS [.sl false 2 (cs.map (Fil.enc false)), i64 l] (i64 (szS szF cs l)) := by
  obtain ⟨Ω, hΩ⟩ : ∃ Ω, Ω = std := ⟨_, rfl⟩
  obtain ⟨r, hr⟩ : ∃ r, r = szS szF cs l := ⟨_, rfl⟩
  obtain ⟨xs, hxs⟩ : ∃ xs, xs = cs.map (Fil.enc false) := ⟨_, rfl⟩
  have hlen : xs.length = cs.length := by rw [hxs, List.length_map]
  rw [← hxs, ← hr]
  have hel : ∀ c ∈ cs, ∀ y, 0 ≤ y → y ≤ 1048576 → PCtr PP n_laws_szFile [Fil.enc false c, i64 y] (i64 (szF c y)) := fun c h y a b => c_szFile c y a b (hc c h)
  have hle : ∀ c y, 0 ≤ szF c y → szF c y ≤ y := fun c y h => by
    have h2 := szF_cost c y
    rw [h2] at h ⊢
    split at h
    · omega
    · rename_i h3; rw [if_neg h3]; omega
  have htab := tab
  refine PCtr.walk tab hΩ fn_laws_szFileS rfl ?_
  generalize PP = P at *
  cbv
  refine br (fun h => ?_) (fun h => ?_)
  · replace h : r = -1 := by
      subst hΩ
      have h : IntKind.i64.wrap (l - xs.length) < 0 := lt_t h
      rw [hlen, szw h0 h1 hm] at h
      rw [hr, szS, if_pos h]
    cbv
    exact .of (congrArg i64 h.symm)
  obtain ⟨l', hl', h, hr⟩ : ∃ l', IntKind.i64.wrap (l - xs.length) = l' ∧ (0 ≤ l' ∧ l' ≤ 1048576) ∧ r = szLoop szF cs l' := by
    subst hΩ
    have h : 0 ≤ IntKind.i64.wrap (l - xs.length) := lt_f h
    rw [hlen, szw h0 h1 hm] at h ⊢
    exact ⟨_, rfl, ⟨h, by omega⟩, by rw [hr, szS, if_neg (by omega)]⟩
  cbv
  refine loopX htab hΩ (fun i : Nat × Int => ⟨[(0, .sl false 2 xs), (1, .sc (.int .i64 i.2)), (5, .sc (.int .i64 (Ω.int i.1)))], 27, []⟩) (fun i => i.1 ≤ cs.length ∧ (0 ≤ i.2 ∧ i.2 ≤ 1048576) ∧ r = szLoop szF (cs.drop i.1) i.2)
    (fun i => cs.length - i.1) (0, l') ⟨Nat.zero_le _, h, hr⟩ (Sbs.mk rfl rfl ⟨rfl, by subst hΩ; exact congrArg i64 hl', zeroI hΩ, trivial⟩) ?_
  rintro ⟨i, y⟩ ⟨hi, hy, he⟩
  dsimp only at hi hy he
  cbv
  refine br (fun h => ?_) (fun h => ?_)
  · replace h := ltI hΩ h
    obtain ⟨c, hcc⟩ := at_of (cs := cs) (by omega : i < cs.length)
    have hcm := List.mem_of_getElem? hcc
    rw [szLoop_at _ hcc] at he
    cbv
    have hcc' := hel c hcm y hy.1 hy.2
    obtain ⟨ds, hen⟩ : ∃ ds, Fil.enc false c = .agg [str c.p, .sl false 1 ds] := ⟨_, rfl⟩
    rw [hen] at hcc'
    refine ⟨⟨nnI hΩ⟩, _, (rdI hΩ hxs hcc).trans (congrArg some hen), ?_⟩
    cbv
    have hley := hle c y
    generalize szF c y = y' at he hcc' hley
    refine call_pure hΩ 3 hcc' rfl (fits _) rfl rfl ?_
    cbv
    refine br (fun h => ?_) (fun h => ?_) <;> cbv
    · exact .of (congrArg i64 (by rw [he, if_pos (ltI_t hΩ h)]))
    · have h := ltI_f hΩ h
      exact ⟨(i + 1, y'), ⟨by dsimp only; omega, ⟨h, by have := hley h; dsimp only; omega⟩, by rw [he, if_neg (by omega)]⟩, by dsimp only; omega, Sbs.mk rfl rfl ⟨rfl, rfl, incI hΩ (by simp only [maxLen] at hm; omega), trivial⟩⟩
  · replace h := geI hΩ h
    cbv
    exact .of (congrArg i64 (by rw [he, List.drop_of_length_le (by omega)]; rfl))
def szD (x : Dsk) (l : Int) : Int := szS szF x.f l
theorem c_szDisk (x : Dsk) (l : Int) (h0 : 0 ≤ l) (h1 : l ≤ 1048576) (hm : x.f.length ≤ maxLen) (hc : ∀ f ∈ x.f, f.Fit) : PCtr PP n_laws_szDisk [x.enc false false, i64 l] (i64 (szD x l)) := by
  obtain ⟨Ω, hΩ⟩ : ∃ Ω, Ω = std := ⟨_, rfl⟩
  have hs := c_szFileS x.f l h0 h1 hm hc
  unfold szD
  have hneg : szS szF x.f l < 0 → szS szF x.f l = -1 := fun h => by
    rw [szS_cost szF_cost] at h ⊢
    split at h
    · rename_i h2; rw [if_pos h2]
    · omega
  unfold Dsk.enc
  generalize szS szF x.f l = r at *
  generalize x.f.map (Fil.enc false) = xs at *
  have htab := tab
  refine PCtr.walk tab hΩ fn_laws_szDisk rfl ?_
  generalize PP = P at *
  cbv
  refine call_pure hΩ 3 hs rfl (fits _) rfl rfl ?_
  cbv
  refine br (fun h => ?_) (fun h => ?_) <;> cbv
  · exact .of (congrArg i64 (hneg (ltI_t hΩ h)).symm)
  · exact .same
def cD (x : Dsk) : Nat := costS cF x.f
theorem szD_cost : Costs szD cD := fun x l => szS_cost szF_cost x.f l
theorem Dsk.fit_of {x : Dsk} (h : cD x ≤ 1048576) : x.Fit := by
  have h1 := len_cost cF x.f
  have h2 := mem_cost cF x.f
  unfold cD at h
  refine ⟨by omega, fun f hf => ?_, fun f hf => ?_, ?_⟩
  · have := h2 f hf; have e : cF f = f.p.length + f.d.length := rfl; omega
  · have := h2 f hf; have e : cF f = f.p.length + f.d.length := rfl; omega
  · have : totL x.f ≤ costS cF x.f := by
      unfold costS totL
      have : ∀ l : List Fil, (l.map fun f => f.d.length).sum ≤ (l.map cF).sum := fun l => by
        induction l with
        | nil => simp
        | cons f l ih => simp only [List.map_cons, List.sum_cons, cF] at *; omega
      have := this x.f
      omega
    omega
end Go.Proofs.YtljjcffnomdhhaaGreatDoor

/- Walks: copies of disks. Plain theorems. -/
set_option linter.unusedVariables false
set_option linter.unusedSimpArgs false
namespace Go.Proofs.YtljjcffnomdhhaaGreatDoor
open Go Go.Fw
set_option maxRecDepth 100000
theorem c_toByteS (cs : List (UInt8)) (hb : cs.length ≤ 1048576) : PCtr PP n_laws_toByteS [.sl false 1 (cs.map (byteA))] (.sl true 1 (cs.map (byteA))) := by
  obtain ⟨Ω, hΩ⟩ : ∃ Ω, Ω = std := ⟨_, rfl⟩
  obtain ⟨xs, hxs⟩ : ∃ xs, xs = cs.map (byteA) := ⟨_, rfl⟩
  obtain ⟨zs, hzs⟩ : ∃ zs, zs = cs.map (byteA) := ⟨_, rfl⟩
  obtain ⟨n, hn⟩ : ∃ n, n = cs.length := ⟨_, rfl⟩
  have hlen : xs.length = n := by rw [hxs, hn, List.length_map]
  obtain ⟨ys, hys⟩ : ∃ ys : Nat → List A, ys = fill (byteA) (.sc (.int .u8 0)) cs := ⟨_, rfl⟩
  have hyl : ∀ i, i ≤ n → (ys i).length = n := fun i hi => by rw [hys, hn]; exact fill_length (by omega)
  have hya : ∀ i, ∀ z ∈ ys i, vStore.isAggA z = false := fun i => by rw [hys]; exact fill_all (fun _ => rfl) rfl
  have hy0 : List.replicate n (.sc (.int .u8 0)) = ys 0 := by rw [hys, fill_zero, hn]
  have hyn : ys n = zs := by rw [hys, hn, fill_full, hzs]
  have hyset : ∀ i c, cs[i]? = some c → (ys i).set i ((byteA) c) = ys (i + 1) := fun i c h => by rw [hys]; exact fill_set h
  clear hys
  rw [← hxs]
  rw [show A.sl true 1 xs = .sl true 1 zs by rw [hzs, hxs]]
  refine PCtr.walk tab hΩ fn_laws_toByteS rfl ?_
  have htab := tab
  have hmo := hmo
  generalize PP = P at *
  cbv
  refine ⟨⟨by subst hΩ; show _ ∧ (0 : Int) ≤ xs.length ∧ 1 * ((xs.length : Int).toNat) ≤ _ ∧ (xs.length : Int).toNat ≤ 9223372036854775807; rw [hlen]; refine ⟨rfl, ?_, ?_, ?_⟩ <;> omega⟩,
    loopX htab hΩ (fun i : Nat => ⟨[(0, .sl false 1 xs), (3, .vw 0 0 n), (4, .sc (.int .i64 (Ω.int i)))], 22, [some ⟨1, ys i, false⟩]⟩) (fun i => i ≤ n) (fun i => n - i) 0 (Nat.zero_le _) (Sbs.mk rfl ?_ ?_) (fun i hi => ?_)⟩
  · rw [← hy0]; subst hΩ; subst hlen; rfl
  · subst hΩ; subst hlen; exact ⟨rfl, rfl, rfl, trivial⟩
  have hyli := hyl i hi
  have hyai := hya i
  cbv
  refine br (fun h => ?_) (fun h => ?_)
  · replace h : i < n := by have := ltI hΩ h; omega
    obtain ⟨c, hcc⟩ := at_of (cs := cs) (by omega : i < cs.length)
    have hset := hyset i c hcc
    cbv
    refine ⟨⟨nnI hΩ⟩, _, rdI hΩ hxs hcc, ?_⟩
    cbv
    refine ⟨⟨ixI hΩ h⟩, ⟨by subst hΩ; show 0 + i < _; rw [hyli]; omega, hyai⟩, i + 1, by omega, by omega, Sbs.mk rfl (by rw [← hset]; subst hΩ; show [some (Row.mk 1 ((ys i).set (0 + i) _) false)] = _; rw [Nat.zero_add]; rfl) ⟨rfl, rfl, incI hΩ (by omega), trivial⟩⟩
  · replace h : i = n := by have := geI hΩ h; omega
    subst h
    cbv
    refine ⟨⟨rfl, by show i ≤ (ys i).length; omega⟩, .of ?_⟩
    rw [← hyn]
    subst hΩ
    show A.sl true 1 ((ys i).take i) = _
    rw [List.take_of_length_le (by omega)]
theorem roF_B (l : List UInt8) : roFree (.sl true 1 (l.map byteA)) = true := roFAll fun x hx => by obtain ⟨c, _, rfl⟩ := List.mem_map.1 hx; rfl
theorem roFF (o : Fil) : roFree (o.enc true) = true := by
  show roFree (.agg _) = true
  rw [roFree_agg]
  have h1 := roF_B o.d
  simp only [List.all_cons, List.all_nil, h1]
  rfl
theorem roFFs (l : List Fil) : roFree (.sl true 2 (l.map (Fil.enc true))) = true := roFAll fun x hx => by obtain ⟨c, _, rfl⟩ := List.mem_map.1 hx; exact roFF c
theorem roFD (x : Dsk) : roFree (x.enc true true) = true := by
  show roFree (.agg _) = true
  rw [roFree_agg]
  have h1 := roFFs x.f
  simp only [List.all_cons, List.all_nil, h1]
  rfl
theorem c_toFile (o : Fil) (hs : o.d.length ≤ 1048576) : PCtr PP n_laws_toFile [o.enc false] (o.enc true) := by
  obtain ⟨Ω, hΩ⟩ : ∃ Ω, Ω = std := ⟨_, rfl⟩
  have h1 := c_toByteS o.d hs
  have r1 := roF_B o.d
  unfold Fil.enc
  generalize o.d.map byteA = ds at *
  refine PCtr.walk tab hΩ fn_laws_toFile rfl ?_
  have htab := tab
  have hmo := hmo
  generalize PP = P at *
  cbv
  refine call_pure hΩ 3 h1 rfl (fits _) r1 rfl ?_
  cbv
  refine ⟨⟨rfl, by subst hΩ; exact Nat.le_refl _⟩, .of ?_⟩
  subst hΩ
  show A.agg [str o.p, A.sl true 1 (ds.take ds.length)] = _
  rw [List.take_length]; rfl
theorem c_toFileS (cs : List (Fil)) (hb : cs.length ≤ 1048576) (hl : ∀ f ∈ cs, f.d.length ≤ 1048576) : PCtr PP n_laws_toFileS [.sl false 2 (cs.map (Fil.enc false))] (.sl true 2 (cs.map (Fil.enc true))) := by
  obtain ⟨Ω, hΩ⟩ : ∃ Ω, Ω = std := ⟨_, rfl⟩
  obtain ⟨xs, hxs⟩ : ∃ xs, xs = cs.map (Fil.enc false) := ⟨_, rfl⟩
  obtain ⟨zs, hzs⟩ : ∃ zs, zs = cs.map (Fil.enc true) := ⟨_, rfl⟩
  obtain ⟨n, hn⟩ : ∃ n, n = cs.length := ⟨_, rfl⟩
  have hlen : xs.length = n := by rw [hxs, hn, List.length_map]
  obtain ⟨ys, hys⟩ : ∃ ys : Nat → List A, ys = fill (Fil.enc true) (.agg [str [], .nil]) cs := ⟨_, rfl⟩
  have hyl : ∀ i, i ≤ n → (ys i).length = n := fun i hi => by rw [hys, hn]; exact fill_length (by omega)
  have hya : ∀ i, ∀ z ∈ ys i, isAggN 2 z = true := fun i => by rw [hys]; exact fill_all (fun _ => rfl) rfl
  have hy0 : List.replicate n (.agg [str [], .nil]) = ys 0 := by rw [hys, fill_zero, hn]
  have hyn : ys n = zs := by rw [hys, hn, fill_full, hzs]
  have hyset : ∀ i c, cs[i]? = some c → (ys i).set i ((Fil.enc true) c) = ys (i + 1) := fun i c h => by rw [hys]; exact fill_set h
  clear hys
  rw [← hxs, ← hzs]
  have hcl : ∀ c ∈ cs, PCtr PP n_laws_toFile [Fil.enc false c] (Fil.enc true c) := fun c h => c_toFile c (hl c h)
  refine PCtr.walk tab hΩ fn_laws_toFileS rfl ?_
  have htab := tab
  have hmo := hmo
  generalize PP = P at *
  cbv
  refine ⟨⟨by subst hΩ; show _ ∧ (0 : Int) ≤ xs.length ∧ 40 * ((xs.length : Int).toNat) ≤ _ ∧ (xs.length : Int).toNat ≤ 9223372036854775807; rw [hlen]; refine ⟨rfl, ?_, ?_, ?_⟩ <;> omega⟩,
    loopX htab hΩ (fun i : Nat => ⟨[(0, .sl false 2 xs), (3, .vw 0 0 n), (4, .sc (.int .i64 (Ω.int i)))], 23, [some ⟨2, ys i, false⟩]⟩) (fun i => i ≤ n) (fun i => n - i) 0 (Nat.zero_le _) (Sbs.mk rfl ?_ ?_) (fun i hi => ?_)⟩
  · rw [← hy0]; subst hΩ; subst hlen; rfl
  · subst hΩ; subst hlen; exact ⟨rfl, rfl, rfl, trivial⟩
  have hyli := hyl i hi
  have hyai := hya i
  cbv
  refine br (fun h => ?_) (fun h => ?_)
  · replace h : i < n := by have := ltI hΩ h; omega
    obtain ⟨c, hcc⟩ := at_of (cs := cs) (by omega : i < cs.length)
    have hset := hyset i c hcc
    cbv
    obtain ⟨ds, hen, hen2⟩ : ∃ ds, Fil.enc false c = .agg [str c.p, .sl false 1 ds] ∧ Fil.enc true c = .agg [str c.p, .sl true 1 ds] := ⟨_, rfl, rfl⟩
    have hcc' := hcl c (List.mem_of_getElem? hcc)
    have hrf := roFF c
    rw [hen2] at hrf hset
    rw [hen, hen2] at hcc'
    refine ⟨⟨nnI hΩ⟩, _, (rdI hΩ hxs hcc).trans (congrArg some hen), ?_⟩
    cbv
    refine call_pure hΩ 3 hcc' rfl (fits _) hrf rfl ?_
    cbv
    refine ⟨⟨ixI hΩ h⟩, ⟨rfl, by subst hΩ; exact Nat.le_refl _⟩, ⟨by subst hΩ; show 0 + i < _; rw [hyli]; omega, hyai⟩, i + 1, by omega, by omega,
      Sbs.trans (Sbs.lastN (rows := [_]) rfl) (Sbs.mk rfl ?_ ⟨rfl, rfl, incI hΩ (by omega), trivial⟩)⟩
    rw [← hset]
    subst hΩ
    show [some (Row.mk 2 ((ys i).set (0 + i) (A.agg [str c.p, A.sl true 1 (ds.take ds.length)])) false)] = _
    rw [List.take_length, Nat.zero_add]
  · replace h : i = n := by have := geI hΩ h; omega
    subst h
    cbv
    refine ⟨⟨rfl, by show i ≤ (ys i).length; omega⟩, .of ?_⟩
    rw [← hyn]
    subst hΩ
    show A.sl true 2 ((ys i).take i) = _
    rw [List.take_of_length_le (by omega)]
theorem c_toDisk (x : Dsk) (hx : x.Fit) : PCtr PP n_laws_toDisk [x.enc false false] (x.enc true true) := by
  obtain ⟨Ω, hΩ⟩ : ∃ Ω, Ω = std := ⟨_, rfl⟩
  have h1 := c_toFileS x.f hx.n hx.d
  have r1 := roFFs x.f
  unfold Dsk.enc
  generalize x.f.map (Fil.enc false) = xs at *
  generalize x.f.map (Fil.enc true) = ys at *
  refine PCtr.walk tab hΩ fn_laws_toDisk rfl ?_
  have htab := tab
  have hmo := hmo
  generalize PP = P at *
  cbv
  refine call_pure hΩ 3 h1 rfl (fits _) r1 rfl ?_
  cbv
  refine ⟨⟨rfl, by subst hΩ; exact Nat.le_refl _⟩, .of ?_⟩
  subst hΩ
  show A.agg [A.sl true 2 (ys.take ys.length), i64 x.bg, i64 x.wr, i64 x.st, boo x.dn] = _
  rw [List.take_length]; rfl
end Go.Proofs.YtljjcffnomdhhaaGreatDoor

/- Regions that draw their order, taken by a plan, rows or none: operations that only read what may be read by all, calls, orders, guards. Plain theorems, no condition. -/
set_option linter.unusedVariables false
set_option linter.unusedSimpArgs false
namespace Go.Fw
section
variable {P : Program} {T : Nat → Option TI} {S : State} {Ω : Opq}
theorem VOR_extract {o : Oper} {rs : List Nat} {x : Operand} {i : Nat} {xs : List A} {z : A} (ho : o.op = .extract x i) (hx : okO x = true) (he : ev S x = .tup xs) (hz : xs[i]? = some z) : VOR P o S rs z := by
  refine fun E G gs a w hi => ?_
  have h1 := ev_rel hi x hx
  rw [he] at h1
  obtain ⟨cs, hv, hr⟩ := tup_inv h1
  obtain ⟨v, hv1, hv2⟩ := hr.get i z hz
  have hv1' : cs[i]? = some v := by simpa using hv1
  exact ⟨v, fun w' hw' => by simp [execOp, ho, hv, Instr.extract, hv1'], hv2⟩
theorem vExtractR_ok {o : Oper} {rs : List Nat} {k : A → Prop} {x : Operand} {i : Nat} (ho : o.op = .extract x i) (h : vExtract (ev S x) i k) : ∃ z, VOR P o S rs z ∧ k z := by
  have hk : okO x = true := by cases x <;> rfl
  unfold vExtract at h
  split at h <;> try exact h.elim
  rename_i xs he
  split at h <;> try exact h.elim
  rename_i z hz
  exact ⟨z, VOR_extract ho hk he hz, h⟩
theorem VOR_slice_str {o : Oper} {rs : List Nat} {t : TypeId} {x : Operand} {lo hi : Option Operand} {s : ByteArray} {l h : Nat} (ho : o.op = .slice t x lo hi none) (hx : okO x = true) (hlo : okOpt lo = true) (hhi : okOpt hi = true)
    (ht : isStrT P t = true) (he : ev S x = .sc (.string s)) (h1 : bnd (lo.map (ev S)) 0 = some (l : Int)) (h2 : bnd (hi.map (ev S)) (bs s).length = some (h : Int)) (hlh : l ≤ h) (hhl : h ≤ (bs s).length)
    : VOR P o S rs (.sc (.string (mkS (((bs s).take h).drop l)))) := by
  refine fun E G gs a w hinv => ⟨_, ?_, .of (.sc rfl)⟩
  have e1 := ev_rel hinv x hx
  rw [he] at e1
  have v1 := (sc_inv e1).1
  have hu : P.underlying t = some .string := by
    unfold isStrT at ht
    split at ht
    · assumption
    · simp at ht
  obtain ⟨a1, a2⟩ := opt_rel hinv lo hlo
  obtain ⟨b1, b2⟩ := opt_rel hinv hi hhi
  rw [bs_length] at h2 hhl
  have hb := slice_bounds (P := P) (isS := false) (lo.map a.eval) (hi.map a.eval) _ _ h1 h2 a1 a2 b1 b2 hlh hhl (Nat.le_refl _)
  have e : s.extract l h = mkS (((bs s).take h).drop l) := by
    apply ByteArray.ext
    apply Array.ext'
    simp [mkS, bs, ByteArray.data_extract, List.extract_eq_take_drop, List.drop_take]
  intro w' hw'
  simp [execOp, ho, v1, Instr.sliceAt, run_underlying hu, Instr.slice, hb, e]
def vEOp (Ω : Opq) (T : Nat → Option TI) (o : Oper) (S : State) (k : A → Prop) : Prop :=
  match o.op with
  | .extract x i => vExtract (ev S x) i k
  | .slice t x lo hi none => (match T t, ev S x with
    | some ti, .sc (.string s) => if ti.str then vLo Ω (lo.map (ev S)) 0 fun c1 l => vLo Ω (hi.map (ev S)) (Ω.lenS (bs s)) fun c2 h => Ob (fun _ => c1 () ∧ c2 () ∧ l ≤ h ∧ h ≤ (bs s).length) ∧ k (.sc (.string (mkS (Ω.segS l h (bs s))))) else False
    | _, _ => vROp Ω T [] o S k)
  | _ => vROp Ω T [] o S k
theorem vEOp_ok (hT : TabOK P T) {o : Oper} {k : A → Prop} (h : vEOp std T o S k) : ∃ z, VOR P o S [] z ∧ k z := by
  have ok : ∀ x : Option Operand, okOpt x = true := fun x => by cases x <;> rfl
  unfold vEOp at h
  split at h
  · rename_i ho; exact vExtractR_ok ho h
  · rename_i t x lo hi ho
    split at h
    · rename_i ti s hi' hx
      have hti := tiOf_ok (hT _ _ hi')
      split at h <;> try exact h.elim
      rename_i hs
      obtain ⟨c1, l, h, g1⟩ := vLo_ok h
      obtain ⟨c2, u, h, g2⟩ := vLo_ok h
      obtain ⟨h0, h⟩ := h
      obtain ⟨h1, h2, h3, h4⟩ := h0.h
      exact ⟨_, VOR_slice_str ho (by cases x <;> rfl) (ok _) (ok _) (by rw [hti.str]; exact hs) hx (g1 h1) (g2 h2) h3 h4, h⟩
    · exact vROp_ok hT h
  · exact vROp_ok hT h
/-- Who was just made: a load in between leaves it. -/
def madeK (mv : Option Nat) (o : Oper) : Option Nat :=
  match o.op with
  | .load _ _ => mv
  | _ => madeBy o
def vPl (Ω : Opq) (P : Program) (T : Nat → Option TI) (ops : List Oper) : Pln → Option Nat → State → (State → Prop) → Prop
  | .fin, _, S, K => K S
  | .q n p, mv, S, K => (match ops[n]? with
    | some o => vGd ops o S (fun S => vEOp Ω T o S fun z => vPl Ω P T ops p mv (S.put o.dst z) K) (fun S => vPl Ω P T ops p mv (S.put o.dst (.tup [])) K)
    | none => False)
  | .s n p, mv, S, K => (match ops[n]? with
    | some o => vGd ops o S (fun S => vOp Ω P T mv o S fun S' => vPl Ω P T ops p (madeK mv o) S' K) (fun S => vPl Ω P T ops p none (S.put o.dst (.tup [])) K)
    | none => False)
  | .two n p m r, mv, S, K => (match ops[n]?, ops[m]? with
    | some o, some o' => vGd ops o S (fun S => vOp Ω P T mv o S fun S' => vPl Ω P T ops p (madeK mv o) S' K) (fun S => vPl Ω P T ops p none (S.put o.dst (.tup [])) K) ∧
        vGd ops o' S (fun S => vOp Ω P T mv o' S fun S' => vPl Ω P T ops r (madeK mv o') S' K) (fun S => vPl Ω P T ops r none (S.put o'.dst (.tup [])) K)
    | _, _ => False)
theorem pl_ok (hT : TabOK P T) {ops : List Oper} {E0 : Env P} (hsel : Region.noSelect ops.toArray = true) {K : State → Prop} : ∀ (p : Pln) (l : Array Bool) (mv : Option Nat) (S : State) (a : Act) (w : World) (E : Env P) (Sc : World → Prop), planB ops.toArray p l = true →
    vPl std P T ops p mv S K → SInv E S a w → (∀ S a w, SInv E S a w → SInv E0 S a w) → (∀ S a w, SInv E S a w → Sc w) →
    wpAnyH P .any ops.toArray (fun e a' w' => e = .normal ∧ ∃ S', SInv E0 S' a' w' ∧ K S') Sc p.depth l a w
  | .fin, l, mv, S, a, w, E, Sc, hB, h, hs, hb, hSc => ⟨by simpa [planB] using hB, rfl, S, hb _ _ _ hs, h⟩
  | .q n p, l, mv, S, a, w, E, Sc, hB, h, hs, hb, hSc => by
    simp only [planB, Bool.and_eq_true] at hB
    unfold vPl at h
    split at h <;> try exact h.elim
    rename_i o ho
    obtain ⟨hd, G, gs, hi⟩ := hs
    obtain ⟨S', hrows, hi', hX⟩ := vGd_ok h hi
    have hag : ∀ S2 a2 w2, SInv (envAt E G gs S' w) S2 a2 w2 → Agree G w w2 := fun S2 a2 w2 ⟨_, G2, gs2, hi2⟩ => hi'.agree hi2
    have hback : ∀ S2 a2 w2, SInv (envAt E G gs S' w) S2 a2 w2 → SInv E S2 a2 w2 := fun S2 a2 w2 ⟨h1, G2, gs2, hi2⟩ => ⟨h1, G2, gs2, hi'.back hi2⟩
    refine wpAnyH_mono (Sc := fun w' => Sc w' ∧ Agree G w w') (fun _ h => h.1) _ _ _ _ ?_
    have hself : Sc w ∧ Agree G w w := ⟨hSc _ _ _ ⟨hd, G, gs, hi⟩, fun _ _ => rfl⟩
    have ho' : ops.toArray[n]? = some o := by simpa using ho
    rcases hX with ⟨hw, hv⟩ | ⟨hw, hv⟩
    · obtain ⟨z, h1, h2⟩ := vEOp_ok hT hv
      obtain ⟨v, h3, h4⟩ := h1 E G gs a w hi'
      refine wpAnyH_take (oi := o) (v := v) ho' hsel hB.1.2 hB.1.1 (fun c a w h => absurd h.1 (by simp)) (.inl ⟨hw, fun w' hw' => h3 w' fun b hb => hw'.2 b (hb.elim id fun ⟨r, hr, _⟩ => by cases hr)⟩) hself ?_
      exact pl_ok hT hsel p _ mv _ _ w (envAt E G gs S' w) _ hB.2 h2 ⟨by rw [put_defers]; exact hd, G, gs, envAt_put E G gs S' w o.dst z ▸ (hi'.put h4 o.dst).at⟩ (fun S a w h => hb _ _ _ (hback _ _ _ h)) (fun S a w h => ⟨hSc _ _ _ (hback _ _ _ h), hag _ _ _ h⟩)
    · refine wpAnyH_take (oi := o) (v := undef) ho' hsel hB.1.2 hB.1.1 (fun c a w h => absurd h.1 (by simp)) (.inr ⟨hw, rfl⟩) hself ?_
      exact pl_ok hT hsel p _ mv _ _ w (envAt E G gs S' w) _ hB.2 hv ⟨by rw [put_defers]; exact hd, G, gs, envAt_put E G gs S' w o.dst (.tup []) ▸ (hi'.put (tup_undef _ _ _) o.dst).at⟩ (fun S a w h => hb _ _ _ (hback _ _ _ h)) (fun S a w h => ⟨hSc _ _ _ (hback _ _ _ h), hag _ _ _ h⟩)
  | .s n p, l, mv, S, a, w, E, Sc, hB, h, hs, hb, hSc => by
    simp only [planB, Bool.and_eq_true, decide_eq_true_eq] at hB
    unfold vPl at h
    split at h <;> try exact h.elim
    rename_i o ho
    refine wpAnyH_all hB.1 (by simp) fun i hi => ?_
    obtain rfl : i = n := by simpa using hi
    exact plan_step hT (X := fun o S' => vPl std P T ops p (madeK mv o) S' K) ho h hs (fun S' a' w' hK hs' => ⟨hSc _ _ _ hs', pl_ok hT hsel p _ _ S' a' w' E Sc hB.2 hK hs' hb hSc⟩)
      fun S' hK hs' => ⟨hSc _ _ _ hs', pl_ok hT hsel p _ _ _ _ w E Sc hB.2 hK (skip_put hs' o.dst) hb hSc⟩
  | .two n p m r, l, mv, S, a, w, E, Sc, hB, h, hs, hb, hSc => by
    simp only [planB, Bool.and_eq_true, decide_eq_true_eq] at hB
    unfold vPl at h
    split at h <;> try exact h.elim
    rename_i o o' ho ho'
    refine wpAnyH_all hB.1.1.1 (by simp) fun i hi => ?_
    have hin : i = n ∨ i = m := by simpa using hi
    rcases hin with rfl | rfl
    · exact plan_step hT (X := fun o S' => vPl std P T ops p (madeK mv o) S' K) ho h.1 hs (fun S' a' w' hK hs' => ⟨hSc _ _ _ hs', pl_ok hT hsel p _ _ S' a' w' E Sc hB.1.2 hK hs' hb hSc⟩)
        fun S' hK hs' => ⟨hSc _ _ _ hs', pl_ok hT hsel p _ _ _ _ w E Sc hB.1.2 hK (skip_put hs' o.dst) hb hSc⟩
    · have := plan_step (Q := fun e a' w' => e = .normal ∧ ∃ S', SInv E0 S' a' w' ∧ K S') (K' := fun a' w' => Sc w' ∧ wpAnyH P .any ops.toArray (fun e a' w' => e = .normal ∧ ∃ S', SInv E0 S' a' w' ∧ K S') Sc r.depth (l.setIfInBounds i true) a' w') hT (X := fun o S' => vPl std P T ops r (madeK mv o) S' K) ho' h.2 hs (fun S' a' w' hK hs' => ⟨hSc _ _ _ hs', pl_ok hT hsel r _ _ S' a' w' E Sc hB.2 hK hs' hb hSc⟩)
        fun S' hK hs' => ⟨hSc _ _ _ hs', pl_ok hT hsel r _ _ _ _ w E Sc hB.2 hK (skip_put hs' o'.dst) hb hSc⟩
      rw [← hB.1.1.2] at this
      exact this
/-- A region that draws its order, by a plan; there may be rows. -/
theorem VC_pl (hT : TabOK P T) (hΩ : Ω = std) (hm : P.follows .mixedOrders = true) (p : Pln) {id : Nat} {ops : Array Oper} {K : Exit → State → Prop} (hB : planOK ops p = true)
    (h : vPl Ω P T ops.toList p none S (K .normal)) : VC P (.region id ops true) S K := by
  subst hΩ
  intro E a w hs
  have hops : ops = ops.toList.toArray := by simp
  rw [hops] at hB ⊢
  obtain ⟨hd, G, gs, hi⟩ := hs
  simp only [planOK, Bool.and_eq_true, decide_eq_true_eq] at hB
  obtain ⟨⟨hsel, hsz⟩, hB⟩ := hB
  have hw1 : Go.RowKit.Below w.heap.size w { w with drawn := w.drawn + 1 } := ⟨rfl, rfl, rfl, Nat.le_refl _, fun _ _ => rfl⟩
  have hi1 : Inv E G gs S a.tmps { w with drawn := w.drawn + 1 } := hi.below hw1 (fun _ h => h) (fun _ h => .inl h) (fun b h => Nat.lt_of_lt_of_le (hi.glt b h) hw1.size)
  have hwp : (Code.region id ops.toList.toArray true).wp P (fun e a' w' => e = .normal ∧ ∃ S', SInv E S' a' w' ∧ K .normal S') a w := by
    refine wp_region_held (S := fun _ => True) hm ?_
    have := pl_ok (E0 := E) hT hsel p _ none S a _ E (fun _ => True) hB h ⟨hd, G, gs, hi1⟩ (fun _ _ _ h => h) (fun _ _ _ _ => trivial)
    rw [hsz] at this
    exact this
  refine wp_mono hwp ?_
  rintro e a' w' ⟨rfl, S', hs', hK'⟩
  exact ⟨S', hs', hK'⟩
end
end Go.Fw

/- Walks: equal disks are told so. Plain theorems. -/
set_option linter.unusedVariables false
set_option linter.unusedSimpArgs false
namespace Go.Proofs.YtljjcffnomdhhaaGreatDoor
open Go Go.Fw
set_option maxRecDepth 100000
theorem bne_self {Ω : Opq} (hΩ : Ω = std) {b : Bool} (h : Ω.cmpB .neq b b = true) : False := by subst hΩ; cases b <;> cases h
theorem c_eqByteS (cs : List (UInt8)) (hb : cs.length ≤ 1048576) : PCtr PP n_laws_eqByteS [.sl false 1 (cs.map (byteA)), .sl false 1 (cs.map (byteA))] (boo true) := by
  obtain ⟨Ω, hΩ⟩ : ∃ Ω, Ω = std := ⟨_, rfl⟩
  obtain ⟨xs, hxs⟩ : ∃ xs, xs = cs.map (byteA) := ⟨_, rfl⟩
  have hlen : xs.length = cs.length := by rw [hxs, List.length_map]
  rw [← hxs]
  have htab := tab
  have hmo := hmo
  refine PCtr.walk tab hΩ fn_laws_eqByteS rfl ?_
  generalize PP = P at *
  cbv
  refine br (fun h => (ne_self hΩ h).elim) (fun h => ?_)
  cbv
  refine loopX htab hΩ (fun i : Nat => ⟨[(0, .sl false 1 xs), (1, .sl false 1 xs), (5, .sc (.int .i64 (Ω.int i)))], 26, []⟩) (fun i => i ≤ cs.length) (fun i => cs.length - i) 0 (Nat.zero_le _) (Sbs.mk rfl rfl ⟨rfl, rfl, zeroI hΩ, trivial⟩) (fun i hi => ?_)
  cbv
  refine br (fun h => ?_) (fun h => ?_)
  · replace h := ltI hΩ h
    obtain ⟨c, hcc⟩ := at_of (cs := cs) (by omega : i < _)
    have hcm := List.mem_of_getElem? hcc
    cbv
    repeat' (first | (refine br (fun h => (notT hΩ h).elim) (fun h => ?_); cbv) | (refine br (fun h => (ne_self hΩ h).elim) (fun h => ?_); cbv) | (refine br (fun h => (sne_self hΩ h).elim) (fun h => ?_); cbv) | (refine ⟨VC_drawn htab hΩ hmo (by kernel_rfl) ?_⟩; cbv) | (refine ⟨⟨nnI hΩ⟩, _, rdI hΩ hxs hcc, ?_⟩; cbv))
    exact ⟨i + 1, by omega, by omega, Sbs.mk rfl rfl ⟨rfl, rfl, incI hΩ (by omega), trivial⟩⟩
  · cbv
    exact .same
theorem c_eqFile (o : Fil) (hs : o.d.length ≤ 1048576) : PCtr PP n_laws_eqFile [o.enc false, o.enc false] (boo true) := by
  obtain ⟨Ω, hΩ⟩ : ∃ Ω, Ω = std := ⟨_, rfl⟩
  have h1 := c_eqByteS o.d hs
  unfold Fil.enc
  generalize o.d.map byteA = ds at *
  have htab := tab
  have hmo := hmo
  refine PCtr.walk tab hΩ fn_laws_eqFile rfl ?_
  generalize PP = P at *
  cbv
  repeat' (first | (refine br (fun h => (notT hΩ h).elim) (fun h => ?_); cbv) | (refine br (fun h => (ne_self hΩ h).elim) (fun h => ?_); cbv) | (refine br (fun h => (sne_self hΩ h).elim) (fun h => ?_); cbv) | (refine ⟨VC_drawn htab hΩ hmo (by kernel_rfl) ?_⟩; cbv) | (refine call_pure hΩ 3 h1 rfl (fits _) rfl rfl ?_; cbv) | (refine QCall_pure (k := 3) h1 rfl (fits _) rfl ?_; cbv))
  exact .same
theorem c_eqFileS (cs : List (Fil)) (hb : cs.length ≤ 1048576) (hl : ∀ f ∈ cs, f.d.length ≤ 1048576) : PCtr PP n_laws_eqFileS [.sl false 2 (cs.map (Fil.enc false)), .sl false 2 (cs.map (Fil.enc false))] (boo true) := by
  obtain ⟨Ω, hΩ⟩ : ∃ Ω, Ω = std := ⟨_, rfl⟩
  obtain ⟨xs, hxs⟩ : ∃ xs, xs = cs.map (Fil.enc false) := ⟨_, rfl⟩
  have hlen : xs.length = cs.length := by rw [hxs, List.length_map]
  rw [← hxs]
  have hc : ∀ c ∈ cs, PCtr PP n_laws_eqFile [Fil.enc false c, Fil.enc false c] (boo true) := fun c h => c_eqFile c (hl c h)
  have htab := tab
  have hmo := hmo
  refine PCtr.walk tab hΩ fn_laws_eqFileS rfl ?_
  generalize PP = P at *
  cbv
  refine br (fun h => (ne_self hΩ h).elim) (fun h => ?_)
  cbv
  refine loopX htab hΩ (fun i : Nat => ⟨[(0, .sl false 2 xs), (1, .sl false 2 xs), (5, .sc (.int .i64 (Ω.int i)))], 27, []⟩) (fun i => i ≤ cs.length) (fun i => cs.length - i) 0 (Nat.zero_le _) (Sbs.mk rfl rfl ⟨rfl, rfl, zeroI hΩ, trivial⟩) (fun i hi => ?_)
  cbv
  refine br (fun h => ?_) (fun h => ?_)
  · replace h := ltI hΩ h
    obtain ⟨c, hcc⟩ := at_of (cs := cs) (by omega : i < _)
    have hcm := List.mem_of_getElem? hcc
    obtain ⟨ds, hen⟩ : ∃ ds, Fil.enc false c = .agg [str c.p, .sl false 1 ds] := ⟨_, rfl⟩
    have hcc1 := hc c hcm
    rw [hen] at hcc1
    cbv
    repeat' (first | (refine br (fun h => (notT hΩ h).elim) (fun h => ?_); cbv) | (refine br (fun h => (ne_self hΩ h).elim) (fun h => ?_); cbv) | (refine br (fun h => (sne_self hΩ h).elim) (fun h => ?_); cbv) | (refine ⟨VC_drawn htab hΩ hmo (by kernel_rfl) ?_⟩; cbv) | (refine ⟨⟨nnI hΩ⟩, _, (rdI hΩ hxs hcc).trans (congrArg some hen), ?_⟩; cbv) | (refine call_pure hΩ 3 hcc1 rfl (fits _) rfl rfl ?_; cbv) | (refine QCall_pure (k := 3) hcc1 rfl (fits _) rfl ?_; cbv))
    exact ⟨i + 1, by omega, by omega, Sbs.mk rfl rfl ⟨rfl, rfl, incI hΩ (by omega), trivial⟩⟩
  · cbv
    exact .same
theorem c_eqDisk (x : Dsk) (hx : x.Fit) : PCtr PP n_laws_eqDisk [x.enc false false, x.enc false false] (boo true) := by
  obtain ⟨Ω, hΩ⟩ : ∃ Ω, Ω = std := ⟨_, rfl⟩
  have h1 := c_eqFileS x.f hx.n hx.d
  unfold Dsk.enc
  generalize x.f.map (Fil.enc false) = xs at *
  have htab := tab
  have hmo := hmo
  refine PCtr.walk tab hΩ fn_laws_eqDisk rfl ?_
  generalize PP = P at *
  cbv
  repeat' (first | (refine br (fun h => (bne_self hΩ h).elim) (fun h => ?_); cbv) | (refine br (fun h => (notT hΩ h).elim) (fun h => ?_); cbv) | (refine br (fun h => (ne_self hΩ h).elim) (fun h => ?_); cbv) | (refine br (fun h => (sne_self hΩ h).elim) (fun h => ?_); cbv) | (refine ⟨VC_drawn htab hΩ hmo (by kernel_rfl) ?_⟩; cbv) | (refine call_pure hΩ 3 h1 rfl (fits _) rfl rfl ?_; cbv) | (refine QCall_pure (k := 3) h1 rfl (fits _) rfl ?_; cbv))
  exact .same
end Go.Proofs.YtljjcffnomdhhaaGreatDoor

/- Helpers of laws about disks. Plain theorems. -/
set_option linter.unusedVariables false
set_option linter.unusedSimpArgs false
namespace Go.Proofs.YtljjcffnomdhhaaGreatDoor
open Go Go.Fw
theorem ro_agg5 {S : State} {k : Nat} {a a' b c d e : A} (ha : roO S (k + 1) a = some a') (hb : roO S (k + 1) b = some b) (hc : roO S (k + 1) c = some c) (hd : roO S (k + 1) d = some d) (he : roO S (k + 1) e = some e) : roO S (k + 2) (.agg [a, b, c, d, e]) = some (.agg [a', b, c, d, e]) := by
  show (mapO (roO S (k + 1)) [a, b, c, d, e]).map A.agg = _
  simp [mapO, ha, hb, hc, hd, he]
theorem mapO_cons {f : A → Option A} {x x' : A} {xs xs' : List A} (h : f x = some x') (hs : mapO f xs = some xs') : mapO f (x :: xs) = some (x' :: xs') := by simp [mapO, h, hs]
theorem szD_facts {x : Dsk} {l l2 : Int} (h : szD x l = l2) (h1 : l ≤ 1048576) (h2 : 0 ≤ l2) : x.Fit := by
  rw [szD_cost] at h
  refine Dsk.fit_of ?_
  split at h <;> omega
end Go.Proofs.YtljjcffnomdhhaaGreatDoor

/- Walks: a disk's present number in the spec, places, sizes. Plain theorems. -/
set_option linter.unusedVariables false
set_option linter.unusedSimpArgs false
namespace Go.Proofs.YtljjcffnomdhhaaGreatDoor
open Go Go.Fw
set_option maxRecDepth 100000
/-- Where the spec finds a path in files in order, and what lies there. -/
structure Fnd (xs : List A) (z : Int) (h : Bool) (d : List UInt8) : Prop where
  neg : h = false → z < 0 ∧ d = []
  pos : h = true → 0 ≤ z ∧ ∃ p, xs[z.toNat]? = some (.agg [str p, .sl false 1 (d.map byteA)])
theorem fnd_of {l : List Fil} (ho : ordF l) (p : List UInt8) : Fnd (l.map (Fil.enc false)) (fndF l p) (hasF l p) (datF l p) := by
  have e : fndF l p = if hasF l p then ((0 + plcF l p : Nat) : Int) else -1 := fndF_of ho
  refine ⟨fun h => ?_, fun h => ?_⟩
  · rw [e, h]; unfold datF; rw [h]; exact ⟨by simp, rfl⟩
  · rw [e, if_pos h]
    unfold datF
    rw [if_pos h]
    unfold hasF at h
    cases hf : l[plcF l p]? with
    | none => rw [hf] at h; cases h
    | some f => exact ⟨by omega, f.p, by rw [List.getElem?_map, show ((0 + plcF l p : Nat) : Int).toNat = plcF l p by omega, hf]; rfl⟩
end Go.Proofs.YtljjcffnomdhhaaGreatDoor

/- Walks: the path of a package. Plain theorems. -/
set_option linter.unusedVariables false
set_option linter.unusedSimpArgs false
namespace Go.Proofs.YtljjcffnomdhhaaGreatDoor
open Go Go.Fw
set_option maxRecDepth 100000
def pkgH : List UInt8 := [112, 107, 103, 47]
/-- A package's path. -/
def pathK (o : Pck) : List UInt8 := pkgH ++ (o.n ++ (45 :: verT o.v))
theorem c_path (o : Pck) (hn : o.n.length ≤ 1048576) (hv : verF o.v = 0) : PCtr PP n_impl_Pack_path [o.enc false] (str (pathK o)) := by
  obtain ⟨Ω, hΩ⟩ : ∃ Ω, Ω = std := ⟨_, rfl⟩
  obtain ⟨ps, ds, bs, hen, -, -, -⟩ := enc_raw o
  rw [hen]
  have ht := c_text o.v hv
  have hl := verT_len hv
  unfold pathK pkgH
  generalize verT o.v = V at *
  generalize o.n = n at *
  have hr : Ω.cat (Ω.cat (Ω.cat [112, 107, 103, 47] n) [45]) V = [112, 107, 103, 47] ++ (n ++ (45 :: V)) := by subst hΩ; show (([112, 107, 103, 47] ++ n) ++ [45]) ++ V = _; simp
  generalize ([112, 107, 103, 47] : List UInt8) ++ (n ++ (45 :: V)) = r at *
  have l1 : (Ω.cat [112, 107, 103, 47] n).length = 4 + n.length := by rw [catL hΩ]; rfl
  have l2 : (Ω.cat (Ω.cat [112, 107, 103, 47] n) [45]).length = 5 + n.length := by rw [catL hΩ, l1]; simp; omega
  have htab := tab
  have hmo := hmo
  refine PCtr.walk tab hΩ fn_impl_Pack_path rfl ?_
  generalize PP = P at *
  cbv
  refine ⟨VC_drawn htab hΩ hmo (by kernel_rfl) ?_⟩
  cbv
  refine ⟨⟨by show ((4 + n.length : Nat) : Int) ≤ _; omega⟩, ⟨by show (((Ω.cat [112, 107, 103, 47] n).length + 1 : Nat) : Int) ≤ _; rw [l1]; omega⟩, ?_⟩
  refine QCall_pure (k := 3) ht rfl (fits _) rfl ?_
  cbv
  refine ⟨⟨by show (((Ω.cat (Ω.cat [112, 107, 103, 47] n) [45]).length + V.length : Nat) : Int) ≤ _; rw [l2]; omega⟩, ?_⟩
  cbv
  exact .of (congrArg str hr)
theorem c_l8Path (o : Pck) (hn : o.n.length ≤ 1048576) (hv : verF o.v = 0) : PCtr PP n_spec_l8Path [o.enc false] (str (pathK o)) := by
  obtain ⟨Ω, hΩ⟩ : ∃ Ω, Ω = std := ⟨_, rfl⟩
  obtain ⟨ps, ds, bs, hen, -, -, -⟩ := enc_raw o
  rw [hen]
  have ht := c_specFormatVersion o.v hv
  have hl := verT_len hv
  unfold pathK pkgH
  generalize verT o.v = V at *
  generalize o.n = n at *
  have hr : Ω.cat (Ω.cat (Ω.cat [112, 107, 103, 47] n) [45]) V = [112, 107, 103, 47] ++ (n ++ (45 :: V)) := by subst hΩ; show (([112, 107, 103, 47] ++ n) ++ [45]) ++ V = _; simp
  generalize ([112, 107, 103, 47] : List UInt8) ++ (n ++ (45 :: V)) = r at *
  have l1 : (Ω.cat [112, 107, 103, 47] n).length = 4 + n.length := by rw [catL hΩ]; rfl
  have l2 : (Ω.cat (Ω.cat [112, 107, 103, 47] n) [45]).length = 5 + n.length := by rw [catL hΩ, l1]; simp; omega
  have htab := tab
  have hmo := hmo
  refine PCtr.walk tab hΩ fn_spec_l8Path rfl ?_
  generalize PP = P at *
  cbv
  refine ⟨VC_drawn htab hΩ hmo (by kernel_rfl) ?_⟩
  cbv
  refine ⟨⟨by show ((4 + n.length : Nat) : Int) ≤ _; omega⟩, ⟨by show (((Ω.cat [112, 107, 103, 47] n).length + 1 : Nat) : Int) ≤ _; rw [l1]; omega⟩, ?_⟩
  refine QCall_pure (k := 3) ht rfl (fits _) rfl ?_
  cbv
  refine ⟨⟨by show (((Ω.cat (Ω.cat [112, 107, 103, 47] n) [45]).length + V.length : Nat) : Int) ≤ _; rw [l2]; omega⟩, ?_⟩
  cbv
  exact .of (congrArg str hr)
end Go.Proofs.YtljjcffnomdhhaaGreatDoor

/- Walks: draws of numbers. Plain theorems. -/
set_option linter.unusedVariables false
set_option linter.unusedSimpArgs false
namespace Go.Proofs.YtljjcffnomdhhaaGreatDoor
open Go Go.Fw
set_option maxRecDepth 100000
/-- The bytes that are read, and how many were. -/
def src (bs : List A) (p : Int) : A := .bx [.sl false 1 bs, i64 p]
structure Src (bs : List A) : Prop where
  len : bs.length ≤ 1048576
  byte : ∀ i, i < bs.length → ∃ c : UInt8, bs[i]? = some (.sc (.int .u8 (c.toNat : Int)))
end Go.Proofs.YtljjcffnomdhhaaGreatDoor

/- Walks: faults of a set. Plain theorems. -/
set_option linter.unusedVariables false
set_option linter.unusedSimpArgs false
namespace Go.Proofs.YtljjcffnomdhhaaGreatDoor
open Go Go.Fw
set_option maxRecDepth 100000
/-- The place of the package of a name. -/
def nmF (c : List Pck) (n : List UInt8) : List Int → Int
  | [] => -1
  | k :: ks => if (pk c k).n == n then k else nmF c n ks
end Go.Proofs.YtljjcffnomdhhaaGreatDoor

/- Walks: names in a set, sets without a place; what they say of plain data. Plain theorems. -/
set_option linter.unusedVariables false
set_option linter.unusedSimpArgs false
namespace Go.Proofs.YtljjcffnomdhhaaGreatDoor
open Go Go.Fw
set_option maxRecDepth 100000
/-- Each name leads to its own place. -/
def apart (c : List Pck) (s : List Int) : List Int → Bool
  | [] => true
  | k :: ks => decide (nmF c (pk c k).n s = k) && apart c s ks
end Go.Proofs.YtljjcffnomdhhaaGreatDoor

/- Walks: what can be spared. Plain theorems. -/
set_option linter.unusedVariables false
set_option linter.unusedSimpArgs false
namespace Go.Proofs.YtljjcffnomdhhaaGreatDoor
open Go Go.Fw
set_option maxRecDepth 100000
theorem rise_adj {s : List Int} : ∀ (n i : Nat), s.length - i = n → riseAll s i (s.drop i) = true → ∀ j x y, i ≤ j → 1 ≤ j → s[j - 1]? = some x → s[j]? = some y → x < y
  | 0, i, hn, _, j, x, y, hij, _, _, hy => by
    have := (List.getElem?_eq_some_iff.1 hy).1
    omega
  | n + 1, i, hn, h, j, x, y, hij, h1, hx, hy => by
    have hi : i < s.length := by omega
    rw [riseAll_at (List.getElem?_eq_getElem hi), Bool.and_eq_true] at h
    by_cases hji : j = i
    · subst hji
      have h2 := h.1
      rw [Bool.or_eq_true] at h2
      rcases h2 with h2 | h2
      · have : j = 0 := by simpa using h2
        omega
      · have h3 := of_decide_eq_true h2
        rw [List.getD_eq_getElem?_getD, hx] at h3
        rw [List.getElem?_eq_getElem hi] at hy
        cases hy
        exact h3
    · exact rise_adj n (i + 1) (by omega) h.2 j x y (by omega) h1 hx hy
theorem setF_rise {c : List Pck} {s : List Int} (h : setF c s = 0) : riseAll s 0 (s.drop 0) = true := by
  unfold setF at h
  split at h
  · rename_i h0; exact absurd h h0
  · split at h
    · rename_i h1
      rw [setOk_eq, Bool.and_eq_true] at h1
      exact h1.1
    · simp at h
theorem setF_lt {c : List Pck} {s : List Int} (h : setF c s = 0) : ∀ (d i : Nat) (x y : Int), s[i]? = some x → s[i + d + 1]? = some y → x < y
  | 0, i, x, y, hx, hy => rise_adj _ 0 rfl (setF_rise h) (i + 1) x y (by omega) (by omega) hx hy
  | d + 1, i, x, y, hx, hy => by
    have hlt := (List.getElem?_eq_some_iff.1 hy).1
    obtain ⟨z, hz⟩ : ∃ z, s[i + d + 1]? = some z := ⟨_, List.getElem?_eq_getElem (by omega)⟩
    have h1 := setF_lt h d i x z hx hz
    have h2 := rise_adj _ 0 rfl (setF_rise h) (i + (d + 1) + 1) z y (by omega) (by omega) hz hy
    omega
end Go.Proofs.YtljjcffnomdhhaaGreatDoor

/- What a change of a set keeps. Plain theorems, no program. -/
set_option linter.unusedVariables false
set_option linter.unusedSimpArgs false
namespace Go.Proofs.YtljjcffnomdhhaaGreatDoor
open Go Go.Fw
theorem len_bound {L : Int} : ∀ {s : List Int} {lo : Int}, s.Pairwise (· < ·) → (∀ k ∈ s, lo ≤ k ∧ k < L) → (s.length : Int) ≤ max 0 (L - lo)
  | [], lo, _, _ => by simp; omega
  | x :: s, lo, h, hk => by
    rw [List.pairwise_cons] at h
    have h1 := len_bound (lo := x + 1) h.2 fun k hk' => ⟨by have := h.1 k hk'; omega, (hk k (by simp [hk'])).2⟩
    have h2 := hk x (by simp)
    rw [List.length_cons]; omega
end Go.Proofs.YtljjcffnomdhhaaGreatDoor

/- Changes make one set of another: plain law, no program. -/
set_option linter.unusedVariables false
set_option linter.unusedSimpArgs false
namespace Go.Proofs.YtljjcffnomdhhaaGreatDoor
open Go Go.Fw
theorem catFrom_all {c : List Pck} : ∀ (n i : Nat), c.length - i = n → catFrom c i (c.drop i) = 0 → ∀ j x, i ≤ j → c[j]? = some x → packF x = 0 ∧ findF (c.take j) x.n x.v < 0
  | 0, i, hn, _, j, x, hij, hx => by have := (List.getElem?_eq_some_iff.1 hx).1; omega
  | n + 1, i, hn, h, j, x, hij, hx => by
    have hi : i < c.length := by omega
    rw [catFrom_at (List.getElem?_eq_getElem hi)] at h
    split at h
    · omega
    · rename_i h1
      split at h
      · cases h
      · rename_i h2
        by_cases e : j = i
        · subst e
          rw [List.getElem?_eq_getElem hi] at hx
          obtain rfl := Option.some.inj hx
          exact ⟨by omega, by omega⟩
        · exact catFrom_all n (i + 1) (by omega) h j x (by omega) hx
end Go.Proofs.YtljjcffnomdhhaaGreatDoor

/- Sets that are read: what they are. Plain law, no program. -/
set_option linter.unusedVariables false
set_option linter.unusedSimpArgs false
namespace Go.Proofs.YtljjcffnomdhhaaGreatDoor
open Go Go.Fw Go.Sort
/-- A sound catalog. -/
theorem cat_ok {c : List Pck} (h : catF c = 0) : c.length ≤ 24 ∧ ∀ o ∈ c, packF o = 0 := by
  unfold catF at h
  split at h
  · cases h
  · refine ⟨by omega, fun o ho => ?_⟩
    obtain ⟨j, hj⟩ := List.mem_iff_getElem?.1 ho
    exact (catFrom_all _ 0 rfl (by rw [List.drop_zero]; exact h) j o (Nat.zero_le _) hj).1
theorem packF_ok {o : Pck} (h : packF o = 0) : nameF o.n = 0 ∧ verF o.v = 0 ∧ inB o.s 1 200 = true := by
  unfold packF at h
  split at h
  · rename_i h1; exact absurd h h1
  · rename_i h1
    split at h
    · rename_i h2; exact absurd h h2
    · rename_i h2
      split at h
      · cases h
      · rename_i h3
        exact ⟨by simpa using h1, by simpa using h2, by simpa using h3⟩
/-- A set that is told: rising, of places. -/
structure Told (c : List Pck) (s : List Int) : Prop where
  lt : s.Pairwise (· < ·)
  at_ : ∀ k ∈ s, inB k 0 ((c.length : Int) - 1) = true
theorem Told.len {c : List Pck} {s : List Int} (h : Told c s) : s.length ≤ c.length := by
  have := len_bound (L := (c.length : Int)) (lo := 0) h.lt fun k hk => by
    have := h.at_ k hk
    simp only [inB, Bool.and_eq_true, decide_eq_true_eq] at this; omega
  omega
end Go.Proofs.YtljjcffnomdhhaaGreatDoor

/- Walks: what is wrong with a disk. Plain theorems. -/
set_option linter.unusedVariables false
set_option linter.unusedSimpArgs false
namespace Go.Proofs.YtljjcffnomdhhaaGreatDoor
open Go Go.Fw
set_option maxRecDepth 100000
/-- The step of filsF at place i, told by what the code asks. -/
structure FilStep (Ω : Opq) (l : List Fil) (r R : Int) (i : Nat) (c : Fil) : Prop where
  bad : ∀ q, pathF c.p = q → q ≠ 0 → r = q
  old : ∀ p, pathF c.p = 0 → 0 < i → l[i - 1]? = some p → Ω.cmpS .leq c.p p.p = true → r = 1
  big : pathF c.p = 0 → (i = 0 ∨ ∃ p, l[i - 1]? = some p ∧ Ω.cmpS .leq c.p p.p = false) → Ω.cmp .gtr (Ω.int (Ω.len (c.d.map byteA))) 4000 = true → r = 2
  next : pathF c.p = 0 → (i = 0 ∨ ∃ p, l[i - 1]? = some p ∧ Ω.cmpS .leq c.p p.p = false) → Ω.cmp .gtr (Ω.int (Ω.len (c.d.map byteA))) 4000 = false → r = if filsF (prevP l (i + 1)) (l.drop (i + 1)) ≠ 0 then filsF (prevP l (i + 1)) (l.drop (i + 1)) else R
theorem filStep {Ω : Opq} (hΩ : Ω = std) {l : List Fil} {r R : Int} {i : Nat} {c : Fil} (hc : l[i]? = some c) (hr : r = if filsF (prevP l i) (l.drop i) ≠ 0 then filsF (prevP l i) (l.drop i) else R) : FilStep Ω l r R i c := by
  subst hΩ
  rw [filsF_at hc] at hr
  have hpv : ∀ p, 0 < i → l[i - 1]? = some p → prevP l i = some p.p := fun p h0 hp => by unfold prevP; rw [if_neg (by omega), hp]; rfl
  have hle : ∀ a b : List UInt8, std.cmpS .leq a b = leB a b := fun a b => rfl
  have hbg : std.cmp .gtr (std.int (std.len (c.d.map byteA))) 4000 = decide (4000 < c.d.length) := by
    show decide ((4000 : Int) < ((c.d.map byteA).length : Int)) = _
    rw [List.length_map]
    exact decide_eq_decide.2 (by omega)
  have hno : (i = 0 ∨ ∃ p, l[i - 1]? = some p ∧ std.cmpS .leq c.p p.p = false) → (prevP l i).any (leB c.p) = false := fun h => by
    rcases Nat.eq_zero_or_pos i with h0 | h0
    · subst h0; rfl
    · obtain ⟨p, h1, h2⟩ := h.resolve_left (by omega)
      rw [hpv p h0 h1]; rw [hle] at h2; exact h2
  refine ⟨fun q h1 h2 => ?_, fun p h1 h2 h3 h4 => ?_, fun h1 h2 h3 => ?_, fun h1 h2 h3 => ?_⟩
  · rw [if_pos (by rw [if_pos (by rw [h1]; exact h2), h1]; exact h2), if_pos (by rw [h1]; exact h2), h1] at hr; exact hr
  · have e : (prevP l i).any (leB c.p) = true := by rw [hpv p h2 h3]; rw [hle] at h4; exact h4
    rw [if_neg (show ¬ pathF c.p ≠ 0 by rw [h1]; simp), if_pos e] at hr
    simpa using hr
  · rw [hbg, decide_eq_true_eq] at h3
    rw [if_neg (show ¬ pathF c.p ≠ 0 by rw [h1]; simp), hno h2, if_neg (show ¬ false = true by simp), if_pos h3] at hr
    simpa using hr
  · rw [hbg, decide_eq_false_iff_not] at h3
    rw [if_neg (show ¬ pathF c.p ≠ 0 by rw [h1]; simp), hno h2, if_neg (show ¬ false = true by simp), if_neg h3] at hr
    exact hr
/-- What a disk's fault is, told by what the code asks. -/
structure DskAsk (Ω : Opq) (F : Int → Int → Int → Bool) (x : Dsk) (n : Nat) (r : Int) : Prop where
  i1 : F x.bg 0 20000 = false → r = 3
  i2 : F x.wr 0 1000000000 = false → r = 3
  i3 : F x.st (-1) 1000000000 = false → r = 3
  i4 : F x.bg 0 20000 = true → F x.wr 0 1000000000 = true → F x.st (-1) 1000000000 = true → Ω.cmp .gtr (Ω.int n) 120 = true → r = 2
  i5 : F x.bg 0 20000 = true → F x.wr 0 1000000000 = true → F x.st (-1) 1000000000 = true → Ω.cmp .gtr (Ω.int n) 120 = false → n ≤ 120 ∧ r = if filsF (prevP x.f 0) (x.f.drop 0) ≠ 0 then filsF (prevP x.f 0) (x.f.drop 0) else if x.bg < (totL x.f : Int) then 8 else 0
theorem dskAsk {Ω : Opq} (hΩ : Ω = std) (x : Dsk) : DskAsk Ω inB x x.f.length (dskF x) := by
  subst hΩ
  unfold dskF
  refine ⟨fun h => ?_, fun h => ?_, fun h => ?_, fun h1 h2 h3 h => ?_, fun h1 h2 h3 h => ?_⟩
  · rw [h]; rfl
  · rw [h]; cases inB x.bg 0 20000 <;> rfl
  · rw [h]; cases inB x.bg 0 20000 <;> cases inB x.wr 0 1000000000 <;> rfl
  · rw [h1, h2, h3, if_neg (by simp), if_pos (by have h : (120 : Int) < x.f.length := gt_t h; omega)]
  · have h : (x.f.length : Int) ≤ 120 := gt_f h
    refine ⟨by omega, ?_⟩
    rw [h1, h2, h3, if_neg (by simp), if_neg (by omega)]; rfl
theorem c_specDiskFault (x : Dsk) (hl : x.f.length ≤ 1048576) (ht : totL x.f ≤ 1099511627776) : PCtr PP n_spec_DiskFault [x.enc false false] (i64 (dskF x)) := by
  obtain ⟨Ω, hΩ⟩ : ∃ Ω, Ω = std := ⟨_, rfl⟩
  have ha := dskAsk hΩ x
  obtain ⟨r, hr⟩ : ∃ r, r = dskF x := ⟨_, rfl⟩
  have htt := c_l7Total x hl ht
  have hin := c_l1In
  have hpa : ∀ s, ∃ q, pathF s = q ∧ PCtr PP n_spec_PathFault [str s] (i64 q) := fun s => ⟨_, rfl, c_specPathFault s⟩
  rw [← hr] at ha ⊢
  unfold Dsk.see at htt
  unfold Dsk.enc
  obtain ⟨l, v1, v2, v3, v4⟩ := x
  dsimp only at *
  have hst : ∀ i c, l[i]? = some c → r = (if filsF (prevP l i) (l.drop i) ≠ 0 then filsF (prevP l i) (l.drop i) else if v1 < (totL l : Int) then 8 else 0) → FilStep Ω l r (if v1 < (totL l : Int) then 8 else 0) i c := fun i c hc h => filStep hΩ hc h
  obtain ⟨n, hn⟩ : ∃ n, n = l.length := ⟨_, rfl⟩
  rw [← hn] at ha
  obtain ⟨xs, hxs⟩ : ∃ xs, xs = l.map (Fil.enc false) := ⟨_, rfl⟩
  rw [← hxs] at htt ⊢
  have hlen : Ω.int (Ω.len xs) = Ω.int n := by subst hΩ; show ((xs.length : Nat) : Int) = _; rw [hxs, List.length_map, hn]; rfl
  have hat : ∀ i c, l[i]? = some c → xs[(Ω.int i).toNat]? = some (.agg [str c.p, .sl false 1 (c.d.map byteA)]) := fun i c hc => (rdI hΩ hxs hc).trans rfl
  have hend : ∀ i, n ≤ i → l.drop i = [] := fun i hi => List.drop_of_length_le (by omega)
  have hnl : ∀ i, i < n → ∃ c, l[i]? = some c := fun i hi => at_of (by omega)
  generalize hT : (totL l : Int) = tt at *
  obtain ⟨i1, i2, i3, i4, i5⟩ := ha
  dsimp only at i1 i2 i3 i4 i5
  rw [hT] at i5
  have hin1 := hin v1 0 20000
  have hin2 := hin v2 0 1000000000
  have hin3 := hin v3 (-1) 1000000000
  generalize inB v1 0 20000 = b1 at *
  generalize inB v2 0 1000000000 = b2 at *
  generalize inB v3 (-1) 1000000000 = b3 at *
  have fin1 : v1 < tt → (if v1 < tt then (8 : Int) else 0) = 8 := fun h => if_pos h
  have fin2 : tt ≤ v1 → (if v1 < tt then (8 : Int) else 0) = 0 := fun h => if_neg (by omega)
  generalize (if v1 < tt then (8 : Int) else 0) = R at *
  have htab := tab
  have hmo := hmo
  refine PCtr.walk tab hΩ fn_spec_DiskFault rfl ?_
  generalize PP = P at *
  cbv
  refine call_pure hΩ 3 hin1 rfl (fits _) rfl rfl ?_
  cbv
  refine br (fun h1 => ?_) (fun h1 => ?_) <;> cbv
  · exact .of (congrArg i64 (i1 (notA hΩ h1)).symm)
  have h1 := notB hΩ h1
  refine call_pure hΩ 3 hin2 rfl (fits _) rfl rfl ?_
  cbv
  refine br (fun h2 => ?_) (fun h2 => ?_) <;> cbv
  · exact .of (congrArg i64 (i2 (notA hΩ (iteB hΩ h2))).symm)
  have h2 := notB hΩ (iteB hΩ h2)
  refine call_pure hΩ 3 hin3 rfl (fits _) rfl rfl ?_
  cbv
  refine br (fun h3 => ?_) (fun h3 => ?_) <;> cbv
  · exact .of (congrArg i64 (i3 (notA hΩ (iteB hΩ h3))).symm)
  have h3 := notB hΩ (iteB hΩ h3)
  refine br (fun h4 => ?_) (fun h4 => ?_) <;> cbv
  · exact .of (congrArg i64 (i4 h1 h2 h3 (by rw [← hlen]; exact h4)).symm)
  obtain ⟨hn120, he0⟩ := i5 h1 h2 h3 (by rw [← hlen]; exact h4)
  refine loopX htab hΩ (fun i : Nat => ⟨[(1, .rp [.sl false 2 xs, i64 v1, i64 v2, i64 v3, boo v4]), (3, i64 (Ω.int i))], 72, []⟩) (fun i => i ≤ n ∧ r = if filsF (prevP l i) (l.drop i) ≠ 0 then filsF (prevP l i) (l.drop i) else R) (fun i => n - i) 0 ⟨Nat.zero_le _, he0⟩
    (((Sbs.unlk (r := 0) rfl rfl).trans (Sbs.thaw0 (r := 0) rfl rfl rfl)).trans ((Sbs.cut 0 rfl).trans (Sbs.mk rfl rfl ⟨rfl, zeroI hΩ, trivial⟩))) ?_
  rintro i ⟨hi, he⟩
  cbv
  refine br (fun h => ?_) (fun h => ?_) <;> cbv
  · have h := ltZt hΩ h
    have h : i < n := by rw [hlen] at h; subst hΩ; have h : (i : Int) < (n : Int) := h; omega
    obtain ⟨c, hc⟩ := hnl i h
    have st := hst i c hc he
    obtain ⟨q, hq, hcq⟩ := hpa c.p
    have hac := hat i c hc
    obtain ⟨sb, so, sg, sn⟩ := st
    have hi1 : i + 1 ≤ n := by omega
    have hlt : n - (i + 1) < n - i := by omega
    have hinc : i64 (Ω.ar .add .i64 (Ω.int i) 1) = i64 (Ω.int (i + 1)) := incI hΩ (by omega)
    have hprev : 0 < i → ∃ p, l[i - 1]? = some p ∧ xs[(Ω.ar .sub .i64 (Ω.int i) 1).toNat]? = some (.agg [str p.p, .sl false 1 (p.d.map byteA)]) ∧ 0 ≤ Ω.ar .sub .i64 (Ω.int i) 1 := fun h0 => by
      obtain ⟨p, hp⟩ := hnl (i - 1) (by omega)
      obtain ⟨k1, k2⟩ := subI hΩ h0 (by omega)
      refine ⟨p, hp, ?_, k1⟩
      rw [k2, ← hat (i - 1) p hp]
      subst hΩ; rfl
    generalize c.d.map byteA = cd at *
    refine ⟨⟨nnI hΩ⟩, _, hac, ?_⟩
    cbv
    refine call_pure hΩ 3 hcq rfl (fits _) rfl rfl ?_
    cbv
    refine br (fun g => ?_) (fun g => ?_) <;> cbv
    · exact .of (congrArg i64 (sb q hq (neZt hΩ g)).symm)
    have g := neZf hΩ g
    have hq0 : pathF c.p = 0 := by rw [hq, g]
    refine ⟨VC_drawn htab hΩ hmo (by kernel_rfl) ?_⟩
    cbv
    have last : (i = 0 ∨ ∃ p, l[i - 1]? = some p ∧ Ω.cmpS .leq c.p p.p = false) → ∀ b, Ω.cmp .gtr (Ω.int (Ω.len cd)) 4000 = b → (b = true → r = 2) ∧ (b = false → (i + 1 ≤ n ∧ r = if filsF (prevP l (i + 1)) (l.drop (i + 1)) ≠ 0 then filsF (prevP l (i + 1)) (l.drop (i + 1)) else R)) :=
      fun h b hb => ⟨fun e => sg hq0 h (by rw [hb, e]), fun e => ⟨hi1, sn hq0 h (by rw [hb, e])⟩⟩
    refine br (fun k => ?_) (fun k => ?_) <;> cbv
    · have k := gtZt hΩ k
      have k : 0 < i := by subst hΩ; have k : (0 : Int) < (i : Int) := k; omega
      obtain ⟨p, hp, hpat, hp0⟩ := hprev k
      refine ⟨⟨nnI hΩ⟩, _, hac, ?_⟩
      cbv
      refine ⟨⟨hp0⟩, _, hpat, ?_⟩
      cbv
      refine br (fun m => ?_) (fun m => ?_) <;> cbv
      · exact .of (congrArg i64 (so p hq0 k hp (iteA hΩ m)).symm)
      have last := last (.inr ⟨p, hp, iteA hΩ m⟩)
      refine ⟨⟨nnI hΩ⟩, _, hac, ?_⟩
      cbv
      refine br (fun o => ?_) (fun o => ?_) <;> cbv
      · exact .of (congrArg i64 ((last _ o).1 rfl).symm)
      · exact ⟨i + 1, (last _ o).2 rfl, hlt, Sbs.mk rfl rfl ⟨rfl, hinc, trivial⟩⟩
    · have k := gtZf hΩ k
      have k : i = 0 := by subst hΩ; have k : (i : Int) ≤ 0 := k; omega
      have last := last (.inl k)
      refine ⟨⟨nnI hΩ⟩, _, hac, ?_⟩
      cbv
      refine br (fun o => ?_) (fun o => ?_) <;> cbv
      · exact .of (congrArg i64 ((last _ o).1 rfl).symm)
      · exact ⟨i + 1, (last _ o).2 rfl, hlt, Sbs.mk rfl rfl ⟨rfl, hinc, trivial⟩⟩
  · have h := ltZf hΩ h
    have h : i = n := by rw [hlen] at h; subst hΩ; have h : (n : Int) ≤ (i : Int) := h; omega
    have he : r = R := by rw [h, hend n (Nat.le_refl _)] at he; exact he.trans (if_neg (by simp [filsF]))
    refine ⟨VC_drawn htab hΩ hmo (by kernel_rfl) ?_⟩
    cbv
    refine QCall_pure (k := 3) htt rfl (fits _) rfl ?_
    cbv
    refine br (fun g => ?_) (fun g => ?_) <;> cbv
    · exact .of (congrArg i64 (by rw [he, fin1 (gtZt hΩ g)]))
    · exact .of (congrArg i64 (by rw [he, fin2 (gtZf hΩ g)]))
end Go.Proofs.YtljjcffnomdhhaaGreatDoor

/- Walks: what is wrong with a disk, in the implementation. Plain theorems. -/
set_option linter.unusedVariables false
set_option linter.unusedSimpArgs false
namespace Go.Proofs.YtljjcffnomdhhaaGreatDoor
open Go Go.Fw
set_option maxRecDepth 100000
theorem c_implDiskFault (x : Dsk) (hl : x.f.length ≤ 1048576) (ht : totL x.f ≤ 1099511627776) : PCtr PP n_impl_DiskFault [x.enc false false] (i64 (dskF x)) := by
  obtain ⟨Ω, hΩ⟩ : ∃ Ω, Ω = std := ⟨_, rfl⟩
  have ha := dskAsk hΩ x
  obtain ⟨r, hr⟩ : ∃ r, r = dskF x := ⟨_, rfl⟩
  have htt := c_total x hl ht
  have hin := c_within
  have hpa : ∀ s, ∃ q, pathF s = q ∧ PCtr PP n_impl_PathFault [str s] (i64 q) := fun s => ⟨_, rfl, c_implPathFault s⟩
  rw [← hr] at ha ⊢
  unfold Dsk.enc at htt ⊢
  obtain ⟨l, v1, v2, v3, v4⟩ := x
  dsimp only at *
  have hst : ∀ i c, l[i]? = some c → r = (if filsF (prevP l i) (l.drop i) ≠ 0 then filsF (prevP l i) (l.drop i) else if v1 < (totL l : Int) then 8 else 0) → FilStep Ω l r (if v1 < (totL l : Int) then 8 else 0) i c := fun i c hc h => filStep hΩ hc h
  obtain ⟨n, hn⟩ : ∃ n, n = l.length := ⟨_, rfl⟩
  rw [← hn] at ha
  obtain ⟨xs, hxs⟩ : ∃ xs, xs = l.map (Fil.enc false) := ⟨_, rfl⟩
  rw [← hxs] at htt ⊢
  have hlen : Ω.int (Ω.len xs) = Ω.int n := by subst hΩ; show ((xs.length : Nat) : Int) = _; rw [hxs, List.length_map, hn]; rfl
  have hat : ∀ i c, l[i]? = some c → xs[(Ω.int i).toNat]? = some (.agg [str c.p, .sl false 1 (c.d.map byteA)]) := fun i c hc => (rdI hΩ hxs hc).trans rfl
  have hend : ∀ i, n ≤ i → l.drop i = [] := fun i hi => List.drop_of_length_le (by omega)
  have hnl : ∀ i, i < n → ∃ c, l[i]? = some c := fun i hi => at_of (by omega)
  generalize hT : (totL l : Int) = tt at *
  obtain ⟨i1, i2, i3, i4, i5⟩ := ha
  dsimp only at i1 i2 i3 i4 i5
  rw [hT] at i5
  have hin1 := hin v1 0 20000
  have hin2 := hin v2 0 1000000000
  have hin3 := hin v3 (-1) 1000000000
  generalize inB v1 0 20000 = b1 at *
  generalize inB v2 0 1000000000 = b2 at *
  generalize inB v3 (-1) 1000000000 = b3 at *
  have fin1 : v1 < tt → (if v1 < tt then (8 : Int) else 0) = 8 := fun h => if_pos h
  have fin2 : tt ≤ v1 → (if v1 < tt then (8 : Int) else 0) = 0 := fun h => if_neg (by omega)
  generalize (if v1 < tt then (8 : Int) else 0) = R at *
  have htab := tab
  have hmo := hmo
  refine PCtr.walk tab hΩ fn_impl_DiskFault rfl ?_
  generalize PP = P at *
  cbv
  refine call_pure hΩ 3 hin1 rfl (fits _) rfl rfl ?_
  cbv
  refine br (fun h1 => ?_) (fun h1 => ?_) <;> cbv
  · exact .of (congrArg i64 (i1 (notA hΩ h1)).symm)
  have h1 := notB hΩ h1
  refine call_pure hΩ 3 hin2 rfl (fits _) rfl rfl ?_
  cbv
  refine br (fun h2 => ?_) (fun h2 => ?_) <;> cbv
  · exact .of (congrArg i64 (i2 (notA hΩ (iteB hΩ h2))).symm)
  have h2 := notB hΩ (iteB hΩ h2)
  refine call_pure hΩ 3 hin3 rfl (fits _) rfl rfl ?_
  cbv
  refine br (fun h3 => ?_) (fun h3 => ?_) <;> cbv
  · exact .of (congrArg i64 (i3 (notA hΩ (iteB hΩ h3))).symm)
  have h3 := notB hΩ (iteB hΩ h3)
  refine br (fun h4 => ?_) (fun h4 => ?_) <;> cbv
  · exact .of (congrArg i64 (i4 h1 h2 h3 (by rw [← hlen]; exact h4)).symm)
  obtain ⟨hn120, he0⟩ := i5 h1 h2 h3 (by rw [← hlen]; exact h4)
  refine loopX htab hΩ (fun i : Nat => ⟨[(1, .rp [.sl false 2 xs, i64 v1, i64 v2, i64 v3, boo v4]), (29, .sl false 2 xs), (30, i64 (Ω.int n)), (31, i64 (Ω.int i))], 68, []⟩) (fun i => i ≤ n ∧ r = if filsF (prevP l i) (l.drop i) ≠ 0 then filsF (prevP l i) (l.drop i) else R) (fun i => n - i) 0 ⟨Nat.zero_le _, he0⟩
    (((Sbs.unlk (r := 0) rfl rfl).trans (Sbs.thaw0 (r := 0) rfl rfl rfl)).trans ((Sbs.cut 0 rfl).trans (Sbs.mk rfl rfl ⟨rfl, rfl, congrArg i64 hlen, zeroI hΩ, trivial⟩))) ?_
  rintro i ⟨hi, he⟩
  cbv
  refine br (fun h => ?_) (fun h => ?_) <;> cbv
  · have h := ltZt hΩ h
    have h : i < n := by subst hΩ; have h : (i : Int) < (n : Int) := h; omega
    obtain ⟨c, hc⟩ := hnl i h
    have st := hst i c hc he
    obtain ⟨q, hq, hcq⟩ := hpa c.p
    have hac := hat i c hc
    obtain ⟨sb, so, sg, sn⟩ := st
    have hi1 : i + 1 ≤ n := by omega
    have hlt : n - (i + 1) < n - i := by omega
    have hinc : i64 (Ω.ar .add .i64 (Ω.int i) 1) = i64 (Ω.int (i + 1)) := incI hΩ (by omega)
    have hprev : 0 < i → ∃ p, l[i - 1]? = some p ∧ xs[(Ω.ar .sub .i64 (Ω.int i) 1).toNat]? = some (.agg [str p.p, .sl false 1 (p.d.map byteA)]) ∧ 0 ≤ Ω.ar .sub .i64 (Ω.int i) 1 := fun h0 => by
      obtain ⟨p, hp⟩ := hnl (i - 1) (by omega)
      obtain ⟨k1, k2⟩ := subI hΩ h0 (by omega)
      refine ⟨p, hp, ?_, k1⟩
      rw [k2, ← hat (i - 1) p hp]
      subst hΩ; rfl
    generalize c.d.map byteA = cd at *
    refine ⟨⟨nnI hΩ⟩, _, hac, ?_⟩
    cbv
    refine call_pure hΩ 3 hcq rfl (fits _) rfl rfl ?_
    cbv
    refine br (fun g => ?_) (fun g => ?_) <;> cbv
    · exact .of (congrArg i64 (sb q hq (neZt hΩ g)).symm)
    have g := neZf hΩ g
    have hq0 : pathF c.p = 0 := by rw [hq, g]
    refine ⟨VC.sub (VC_drawn htab hΩ hmo (by kernel_rfl) ?_) ((Sbs.unlk (r := 0) rfl rfl).trans (Sbs.thaw0 (r := 0) rfl rfl rfl))⟩
    cbv
    have last : (i = 0 ∨ ∃ p, l[i - 1]? = some p ∧ Ω.cmpS .leq c.p p.p = false) → ∀ b, Ω.cmp .gtr (Ω.int (Ω.len cd)) 4000 = b → (b = true → r = 2) ∧ (b = false → (i + 1 ≤ n ∧ r = if filsF (prevP l (i + 1)) (l.drop (i + 1)) ≠ 0 then filsF (prevP l (i + 1)) (l.drop (i + 1)) else R)) :=
      fun h b hb => ⟨fun e => sg hq0 h (by rw [hb, e]), fun e => ⟨hi1, sn hq0 h (by rw [hb, e])⟩⟩
    refine br (fun k => ?_) (fun k => ?_) <;> cbv
    · have k := gtZt hΩ k
      have k : 0 < i := by subst hΩ; have k : (0 : Int) < (i : Int) := k; omega
      obtain ⟨p, hp, hpat, hp0⟩ := hprev k
      refine ⟨⟨hp0⟩, _, hpat, ?_⟩
      cbv
      refine br (fun m => ?_) (fun m => ?_) <;> cbv
      · exact .of (congrArg i64 (so p hq0 k hp (iteA hΩ m)).symm)
      have last := last (.inr ⟨p, hp, iteA hΩ m⟩)
      refine br (fun o => ?_) (fun o => ?_) <;> cbv
      · exact .of (congrArg i64 ((last _ o).1 rfl).symm)
      · exact ⟨i + 1, (last _ o).2 rfl, hlt, (Sbs.cut 0 rfl).trans (Sbs.mk rfl rfl ⟨rfl, rfl, rfl, hinc, trivial⟩)⟩
    · have k := gtZf hΩ k
      have k : i = 0 := by subst hΩ; have k : (i : Int) ≤ 0 := k; omega
      have last := last (.inl k)
      refine br (fun o => ?_) (fun o => ?_) <;> cbv
      · exact .of (congrArg i64 ((last _ o).1 rfl).symm)
      · exact ⟨i + 1, (last _ o).2 rfl, hlt, (Sbs.cut 0 rfl).trans (Sbs.mk rfl rfl ⟨rfl, rfl, rfl, hinc, trivial⟩)⟩
  · have h := ltZf hΩ h
    have h : i = n := by subst hΩ; have h : (n : Int) ≤ (i : Int) := h; omega
    have he : r = R := by rw [h, hend n (Nat.le_refl _)] at he; exact he.trans (if_neg (by simp [filsF]))
    refine ⟨VC_drawn htab hΩ hmo (by kernel_rfl) ?_⟩
    cbv
    refine QCall_pure (k := 3) htt rfl (fits _) rfl ?_
    cbv
    refine br (fun g => ?_) (fun g => ?_) <;> cbv
    · exact .of (congrArg i64 (by rw [he, fin1 (gtZt hΩ g)]))
    · exact .of (congrArg i64 (by rw [he, fin2 (gtZf hΩ g)]))
end Go.Proofs.YtljjcffnomdhhaaGreatDoor

/- Walks: codes of catalogs and disks; sets of numbers. Plain theorems. -/
set_option linter.unusedVariables false
set_option linter.unusedSimpArgs false
namespace Go.Proofs.YtljjcffnomdhhaaGreatDoor
open Go Go.Fw
set_option maxRecDepth 100000
/-- The code of a catalog and a disk. -/
def bthC (c : List Pck) (x : Dsk) : Int := if catF c ≠ 0 then catF c else dskF x
theorem c_bothCode (c : List Pck) (x : Dsk) (hl : c.length ≤ 1048576) (ho : ∀ o ∈ c, o.Small) (hx : x.Fit) : PCtr PP n_impl_bothCode [encP c, x.enc false false] (i64 (bthC c x)) := by
  obtain ⟨Ω, hΩ⟩ : ∃ Ω, Ω = std := ⟨_, rfl⟩
  have h1 := c_implCatalogFault c hl ho
  have h2 := c_implDiskFault x hx.n hx.t
  have h3 := c_firstCode [catF c, dskF x] (by simp)
  rw [show orF [catF c, dskF x] = bthC c x by unfold bthC; simp only [orF]; by_cases e : dskF x = 0 <;> simp [e]] at h3
  generalize bthC c x = b at *
  generalize catF c = b1 at *
  generalize dskF x = b2 at *
  unfold encP Dsk.enc at *
  generalize x.f.map (Fil.enc false) = xs at *
  generalize c.map (Pck.enc false) = cs at *
  have htab := tab
  have hmo := hmo
  refine PCtr.walk tab hΩ fn_impl_bothCode rfl ?_
  generalize PP = P at *
  cbv
  refine ⟨VC.sub (VC_tail htab hΩ hmo 4 (by kernel_rfl) ?_) ((Sbs.unlk (r := 0) rfl rfl).trans (Sbs.thaw0 (r := 0) rfl rfl rfl))⟩
  cbv
  refine QCall_pure (k := 3) h1 rfl (fits _) rfl ?_
  cbv
  refine QCall_pure (k := 4) h2 rfl (fits _) rfl ?_
  cbv
  refine call_pure hΩ 3 h3 rfl (fits _) rfl rfl ?_
  cbv
  exact .same
theorem c_l8Asked (c : List Pck) (x : Dsk) (hl : c.length ≤ 1048576) (ho : ∀ o ∈ c, o.Small) (hx : x.Fit) : PCtr PP n_spec_l8Asked [encP c, x.enc false false] (i64 (bthC c x)) := by
  obtain ⟨Ω, hΩ⟩ : ∃ Ω, Ω = std := ⟨_, rfl⟩
  have h1 := c_specCatalogFault c hl ho
  have h2 := c_specDiskFault x hx.n hx.t
  have e1 : catF c ≠ 0 → bthC c x = catF c := fun h => if_pos h
  have e2 : catF c = 0 → bthC c x = dskF x := fun h => if_neg (by simp [h])
  generalize bthC c x = b at *
  generalize catF c = b1 at *
  generalize dskF x = b2 at *
  unfold encP Dsk.enc at *
  generalize x.f.map (Fil.enc false) = xs at *
  generalize c.map (Pck.enc false) = cs at *
  have htab := tab
  have hmo := hmo
  refine PCtr.walk tab hΩ fn_spec_l8Asked rfl ?_
  generalize PP = P at *
  cbv
  refine call_pure hΩ 3 h1 rfl (fits _) rfl rfl ?_
  cbv
  refine br (fun h => ?_) (fun h => ?_) <;> cbv
  · exact .of (congrArg i64 (e1 (neZt hΩ h)).symm)
  · refine call_pure hΩ 4 h2 rfl (fits _) rfl rfl ?_
    cbv
    exact .of (congrArg i64 (e2 (neZf hΩ h)).symm)
end Go.Proofs.YtljjcffnomdhhaaGreatDoor

/- Walks: what a number alone has, in the implementation. Plain theorems. -/
set_option linter.unusedVariables false
set_option linter.unusedSimpArgs false
namespace Go.Proofs.YtljjcffnomdhhaaGreatDoor
open Go Go.Fw Go.Sort
set_option maxRecDepth 100000
theorem bthC_ok {c : List Pck} {x : Dsk} (hx : x.Fit) (h : bthC c x = 0) : catF c = 0 ∧ x.Ok := by
  unfold bthC at h
  split at h
  · rename_i h1; exact absurd h h1
  · rename_i h1; exact ⟨by simpa using h1, hx.ok h⟩
end Go.Proofs.YtljjcffnomdhhaaGreatDoor

/- What the reading of a term answers. Definitions and plain theorems. -/
set_option linter.unusedVariables false
set_option linter.unusedSimpArgs false
namespace Go.Proofs.YtljjcffnomdhhaaGreatDoor
open Go Go.Fw Go.Lib
set_option maxRecDepth 100000
theorem hp2 (r : List UInt8) : hasPrefix r [62, 61] = true ↔ ∃ t, r = 62 :: 61 :: t := by
  unfold hasPrefix
  rw [List.isPrefixOf_iff_prefix]
  exact ⟨fun ⟨t, h⟩ => ⟨t, h.symm⟩, fun ⟨t, h⟩ => ⟨t, h.symm⟩⟩
end Go.Proofs.YtljjcffnomdhhaaGreatDoor

/- What the text of terms and the reading of roots answer. Definitions and plain theorems. -/
set_option linter.unusedVariables false
set_option linter.unusedSimpArgs false
namespace Go.Proofs.YtljjcffnomdhhaaGreatDoor
open Go Go.Fw Go.Lib
set_option maxRecDepth 100000
/-- A sound term's text. -/
def trmT (t : Trm) : List UInt8 := (t.n ++ (if t.l = Ver.zero then [] else [62, 61] ++ verT t.l)) ++ (if t.h = topV then [] else [60] ++ verT t.h)
def fmtT (t : Trm) : List UInt8 := if trmF t = 0 then trmT t else []
theorem trmF_parts {t : Trm} (h : trmF t = 0) : nameF t.n = 0 ∧ verF t.l = 0 ∧ (t.h = topV ∨ verF t.h = 0) := by
  unfold trmF at h
  split at h
  · rename_i g; exact absurd h g
  · rename_i g1
    split at h
    · rename_i g; exact absurd h g
    · rename_i g2
      split at h
      · cases h
      · rename_i g3
        refine ⟨by simpa using g1, by simpa using g2, ?_⟩
        by_cases e : t.h = topV
        · exact .inl e
        · exact .inr (Decidable.byContradiction fun g => g3 ⟨e, g⟩)
theorem trmT_len {t : Trm} (h : trmF t = 0) : (trmT t).length ≤ 40 := by
  obtain ⟨h1, h2, h3⟩ := trmF_parts h
  have := nameF_len h1
  have := verT_len h2
  unfold trmT
  rw [List.length_append, List.length_append]
  have a : (if t.l = Ver.zero then [] else [62, 61] ++ verT t.l).length ≤ 13 := by split <;> simp <;> omega
  have b : (if t.h = topV then [] else [60] ++ verT t.h).length ≤ 12 := by
    split
    · simp
    · rename_i g
      have := verT_len (h3.resolve_left g)
      simp; omega
  omega
theorem firstF_zero {α : Type} {f : α → Int} : ∀ {l : List α}, firstF f l = 0 ↔ ∀ x ∈ l, f x = 0
  | [] => by simp [firstF]
  | x :: l => by
    unfold firstF
    by_cases h : f x = 0
    · rw [if_neg (by simpa using h), firstF_zero]; simp [h]
    · rw [if_pos h]; simp [h]
end Go.Proofs.YtljjcffnomdhhaaGreatDoor

/- A package's bytes, what a set lacks, and what is wrong with a machine. Definitions and plain theorems. -/
set_option linter.unusedVariables false
set_option linter.unusedSimpArgs false
namespace Go.Proofs.YtljjcffnomdhhaaGreatDoor
open Go Go.Fw
set_option maxRecDepth 100000
/-- The bytes of a package, one after another. -/
def bit (b : UInt8) : Nat → UInt8
  | 0 => b
  | i + 1 => 31 * bit b i + 7
def sumN : List UInt8 → Nat
  | [] => 0
  | c :: l => c.toNat + sumN l
def verN (v : Ver) : Nat := v.a.toNat + v.b.toNat + v.c.toNat
def byt0 (o : Pck) : UInt8 := UInt8.ofNat (verN o.v + sumN o.n)
def bytN (b : UInt8) (n : Nat) : List UInt8 := (List.range n).map (bit b)
def bytK (o : Pck) : List UInt8 := bytN (byt0 o) o.s.toNat
theorem bytN_succ (b : UInt8) (n : Nat) : bytN b (n + 1) = bytN b n ++ [bit b n] := by
  unfold bytN
  rw [List.range_succ, List.map_append]; rfl
theorem bytN_len (b : UInt8) (n : Nat) : (bytN b n).length = n := by unfold bytN; simp
theorem sumN_app : ∀ (l m : List UInt8), sumN (l ++ m) = sumN l + sumN m
  | [], m => by simp [sumN]
  | c :: l, m => by
    have := sumN_app l m
    show c.toNat + sumN (l ++ m) = c.toNat + sumN l + sumN m
    omega
theorem sumN_at {l : List UInt8} {i : Nat} {c : UInt8} (h : l[i]? = some c) : sumN (l.take (i + 1)) = sumN (l.take i) + c.toNat := by
  rw [List.take_add_one, h, sumN_app]; rfl
theorem sumN_le : ∀ l : List UInt8, sumN l ≤ 255 * l.length
  | [] => Nat.zero_le _
  | c :: l => by
    have := sumN_le l
    have h := c.toNat_lt
    show c.toNat + sumN l ≤ _
    rw [List.length_cons]
    omega
theorem bit_succ (b : UInt8) (i : Nat) : (bit b (i + 1)).toNat = (31 * (bit b i).toNat + 7) % 256 := by
  show (31 * bit b i + 7).toNat = _
  rw [UInt8.toNat_add, UInt8.toNat_mul]
  show (31 * (bit b i).toNat % 256 + 7) % 256 = _
  omega
theorem byt0_nat (o : Pck) : (byt0 o).toNat = (verN o.v + sumN o.n) % 256 := by
  unfold byt0
  rw [UInt8.toNat_ofNat']
/-- The packages of a set whose files are not there. -/
def lackB (c : List Pck) (l : List Fil) (k : Int) : Bool := !(hasF l (pathK (pk c k)) && decide (datF l (pathK (pk c k)) = bytK (pk c k)))
def lackF (c : List Pck) (l : List Fil) (s : List Int) : List Int := s.filter (lackB c l)
theorem lackF_at {c : List Pck} {l : List Fil} {s : List Int} {i : Nat} {k : Int} (h : s[i]? = some k) : lackF c l (s.take (i + 1)) = lackF c l (s.take i) ++ (if lackB c l k then [k] else []) := by
  unfold lackF
  rw [List.take_add_one, h, List.filter_append]
  cases hk : lackB c l k <;> simp [List.filter, hk]
end Go.Proofs.YtljjcffnomdhhaaGreatDoor

/- Walks: the bytes of a package. Plain theorems. -/
set_option linter.unusedVariables false
set_option linter.unusedSimpArgs false
namespace Go.Proofs.YtljjcffnomdhhaaGreatDoor
open Go Go.Fw
set_option maxRecDepth 100000
theorem c_EqualB (a b : List UInt8) (ha : a.length ≤ 1048576) (hb : b.length ≤ 1048576) : PCtr PP n_slices_Equal_L_byte_byte [.sl false 1 (a.map byteA), .sl false 1 (b.map byteA)] (boo (decide (a = b))) := by
  obtain ⟨Ω, hΩ⟩ : ∃ Ω, Ω = std := ⟨_, rfl⟩
  obtain ⟨r, hr⟩ : ∃ r, r = decide (a = b) := ⟨_, rfl⟩
  have ne : a ≠ b → r = false := fun h => by rw [hr]; exact decide_eq_false h
  have eq : a = b → r = true := fun h => by rw [hr]; exact decide_eq_true h
  rw [← hr]
  clear hr
  obtain ⟨xs, hxs⟩ : ∃ xs, xs = a.map byteA := ⟨_, rfl⟩
  obtain ⟨ys, hys⟩ : ∃ ys, ys = b.map byteA := ⟨_, rfl⟩
  have hlx : Ω.int (Ω.len xs) = (a.length : Int) := by subst hΩ; show ((xs.length : Nat) : Int) = _; rw [hxs, List.length_map]
  have hly : Ω.int (Ω.len ys) = (b.length : Int) := by subst hΩ; show ((ys.length : Nat) : Int) = _; rw [hys, List.length_map]
  have hll : xs.length = a.length := by rw [hxs, List.length_map]
  rw [← hxs, ← hys]
  have htab := tab
  have hmo := hmo
  refine PCtr.walk tab hΩ fn_slices_Equal_L_byte_byte rfl ?_
  generalize PP = P at *
  cbv
  refine br (fun h => ?_) (fun h => ?_) <;> cbv
  · have h := neI_t hΩ h
    exact .of (congrArg boo (ne (fun e => h (by rw [hlx, hly, e]))).symm)
  have h := neI_f hΩ h
  have hab : a.length = b.length := Int.ofNat_inj.1 (hlx.symm.trans (h.trans hly))
  refine loopX htab hΩ (fun i : Nat => ⟨[(0, .sl false 1 xs), (1, .sl false 1 ys), (12, i64 (Ω.int (Ω.len xs))), (13, i64 (Ω.int i))], 26, []⟩) (fun i => i ≤ a.length ∧ a.take i = b.take i) (fun i => a.length - i) 0
    ⟨Nat.zero_le _, rfl⟩ (Sbs.mk rfl rfl ⟨rfl, rfl, rfl, zeroI hΩ, trivial⟩) ?_
  rintro i ⟨hi, ht⟩
  cbv
  refine br (fun h => ?_) (fun h => ?_) <;> cbv
  · replace h := ltI hΩ h
    obtain ⟨c, hc⟩ := at_of (cs := a) (by omega : i < _)
    obtain ⟨d, hd⟩ := at_of (cs := b) (by omega : i < _)
    refine ⟨VC_drawn htab hΩ hmo (by kernel_rfl) ?_⟩
    cbv
    refine ⟨⟨nnI hΩ⟩, _, rdI hΩ hxs hc, ?_⟩
    cbv
    refine ⟨⟨nnI hΩ⟩, _, rdI hΩ hys hd, ?_⟩
    cbv
    refine br (fun k => ?_) (fun k => ?_) <;> cbv
    · have k : (c.toNat : Int) ≠ d.toNat := neI_t hΩ k
      exact .of (congrArg boo (ne (fun e => k (by rw [e, hd] at hc; cases hc; rfl))).symm)
    · have k : (c.toNat : Int) = d.toNat := neI_f hΩ k
      have e : c = d := UInt8.toNat_inj.1 (by omega)
      exact ⟨i + 1, ⟨by omega, by rw [List.take_add_one, List.take_add_one, hc, hd, ht, e]⟩, by omega, Sbs.mk rfl rfl ⟨rfl, rfl, rfl, incI hΩ (by omega), trivial⟩⟩
  · replace h := geI hΩ h
    rw [List.take_of_length_le (by omega), List.take_of_length_le (by omega)] at ht
    exact .of (congrArg boo (eq ht).symm)
theorem c_l8Same (a b : List UInt8) : PCtr PP n_spec_l8Same [.sl false 1 (a.map byteA), .sl false 1 (b.map byteA)] (boo (decide (a = b))) := by
  obtain ⟨Ω, hΩ⟩ : ∃ Ω, Ω = std := ⟨_, rfl⟩
  obtain ⟨r, hr⟩ : ∃ r, r = decide (a = b) := ⟨_, rfl⟩
  rw [← hr]
  obtain ⟨xs, hxs⟩ : ∃ xs, xs = a.map byteA := ⟨_, rfl⟩
  obtain ⟨ys, hys⟩ : ∃ ys, ys = b.map byteA := ⟨_, rfl⟩
  rw [← hxs, ← hys]
  refine PCtr.walk tab hΩ fn_spec_l8Same rfl ?_
  generalize PP = P at *
  cbv
  refine ⟨a, hxs, ?_⟩
  cbv
  refine ⟨b, hys, ?_⟩
  cbv
  refine .of (congrArg boo ?_)
  rw [hr]
  subst hΩ
  show cmpSS .eql a b = _
  cases h : cmpSS .eql a b with
  | true => exact (decide_eq_true (seqT rfl h)).symm
  | false => exact (decide_eq_false (seqF rfl h)).symm
/-- What both functions of a package's bytes need. -/
theorem byt_facts {Ω : Opq} (hΩ : Ω = std) (o : Pck) (hn : o.n.length ≤ 12) (hv : verF o.v = 0) (hs : inB o.s 1 200 = true) : ∃ (m : Nat) (C : Nat → Int) (F : Nat → List A), (o.s = (m : Int) ∧ 1 ≤ m ∧ m ≤ 200) ∧ (bytK o).map byteA = F m ∧ F 0 = [] ∧
    (∀ k, 0 ≤ C k ∧ C k ≤ 255 ∧ C (k + 1) = (31 * C k + 7) % 256 ∧ Ω.len (F k) = k ∧ Ω.len (F k) ≤ (F k).length ∧ Ω.take (Ω.len (F k)) (F k) = F k ∧ Ω.app (Ω.take (Ω.len (F k)) (F k)) [.sc (.int .u8 (C k))] = F (k + 1) ∧ Ω.plus (Ω.len (F k)) (Ω.len [.sc (.int .u8 (C k))]) = Ω.len (F (k + 1))) ∧
    C 0 = (o.v.a + o.v.b + o.v.c + (sumN o.n : Int)) % 256 := by
  have hs : (1 : Int) ≤ o.s ∧ o.s ≤ 200 := by unfold inB at hs; simpa using hs
  obtain ⟨⟨a0, a1⟩, ⟨b0, b1⟩, ⟨c0, c1⟩⟩ := verF_in hv
  refine ⟨o.s.toNat, fun k => ((bit (byt0 o) k).toNat : Int), fun k => (bytN (byt0 o) k).map byteA, ⟨by omega, by omega, by omega⟩, rfl, rfl, fun k => ?_, ?_⟩
  · have h1 := (bit (byt0 o) k).toNat_lt
    have h2 := bit_succ (byt0 o) k
    have h3 := bytN_len (byt0 o) k
    have h4 := bytN_len (byt0 o) (k + 1)
    dsimp only
    refine ⟨by omega, by omega, by omega, ?_, ?_, takeAll hΩ _, ?_, ?_⟩ <;> subst hΩ
    · show ((bytN (byt0 o) k).map byteA).length = k; rw [List.length_map, h3]
    · exact Nat.le_refl _
    · rw [takeAll rfl, bytN_succ, List.map_append]; rfl
    · show ((bytN (byt0 o) k).map byteA).length + 1 = ((bytN (byt0 o) (k + 1)).map byteA).length
      rw [List.length_map, List.length_map, h3, h4]
  · have h := byt0_nat o
    unfold verN at h
    show ((byt0 o).toNat : Int) = _
    omega
theorem c_bytes (o : Pck) (hn : o.n.length ≤ 12) (hv : verF o.v = 0) (hs : inB o.s 1 200 = true) : PCtr PP n_impl_Pack_bytes [o.enc false] (.sl true 1 ((bytK o).map byteA)) := by
  obtain ⟨Ω, hΩ⟩ : ∃ Ω, Ω = std := ⟨_, rfl⟩
  obtain ⟨m, C, F, ⟨hm, hm1, hm2⟩, hR, hF0, hF, hC0⟩ := byt_facts hΩ o hn hv hs
  rw [hR]
  clear hR
  obtain ⟨⟨a0, a1⟩, ⟨b0, b1⟩, ⟨c0, c1⟩⟩ := verF_in hv
  obtain ⟨ps, ds, bs, hen, -, -, -⟩ := enc_raw o
  rw [hen, hm]
  obtain ⟨B, hB⟩ : ∃ B : Nat → Int, ∀ i, B i = (o.v.a + o.v.b + o.v.c + (sumN (o.n.take i) : Int)) % 256 := ⟨_, fun _ => rfl⟩
  have hB0 : Ω.ar .add .u8 (Ω.ar .add .u8 (Ω.wrap .u8 o.v.a) (Ω.wrap .u8 o.v.b)) (Ω.wrap .u8 o.v.c) = B 0 := by
    rw [hB]; subst hΩ; show ((o.v.a % 256 + o.v.b % 256) % 256 + o.v.c % 256) % 256 = (o.v.a + o.v.b + o.v.c + ((0 : Nat) : Int)) % 256; omega
  have hBs : ∀ i c, o.n[i]? = some c → Ω.ar .add .u8 (B i) (Ω.u8 c) = B (i + 1) := fun i c h => by
    rw [hB, hB, sumN_at h]; subst hΩ; show ((o.v.a + o.v.b + o.v.c + (sumN (o.n.take i) : Int)) % 256 + (c.toNat : Int)) % 256 = _; omega
  have hBe : B o.n.length = C 0 := by rw [hB, hC0, List.take_length]
  clear hB hC0
  generalize o.v.a = va at *
  generalize o.v.b = vb at *
  generalize o.v.c = vc at *
  generalize o.n = nm at *
  obtain ⟨M, hM⟩ : ∃ M : Int, M = (m : Int) := ⟨_, rfl⟩
  rw [← hM]
  have hMi : M = Ω.int m := by subst hΩ; exact hM
  have htab := tab
  have hmo := hmo
  refine PCtr.walk tab hΩ fn_impl_Pack_bytes rfl ?_
  generalize PP = P at *
  cbv
  refine loopX htab hΩ (fun i : Nat => ⟨[(1, .pt 0 0 0), (3, .sc (.int .u8 (B i))), (22, i64 (Ω.int (Ω.lenS nm))), (23, i64 (Ω.int i))], 47, [some ⟨8, [.agg [str nm, i64 va, i64 vb, i64 vc, i64 M, .sl false 1 ps, .sl false 1 ds, .sl false 7 bs]], true⟩]⟩) (fun i => i ≤ nm.length) (fun i => nm.length - i) 0
    (Nat.zero_le _) (Sbs.mk rfl rfl ⟨rfl, congrArg (fun z => A.sc (.int .u8 z)) hB0, rfl, zeroI hΩ, trivial⟩) ?_
  intro i hi
  cbv
  refine br (fun h => ?_) (fun h => ?_) <;> cbv
  · have h := ltZt hΩ h
    have h : i < nm.length := by subst hΩ; have h : (i : Int) < (nm.length : Int) := h; omega
    obtain ⟨c, hc⟩ := at_of (cs := nm) h
    refine ⟨⟨nnI hΩ⟩, c, by subst hΩ; exact hc, ?_⟩
    cbv
    exact ⟨i + 1, by omega, by omega, Sbs.mk rfl rfl ⟨rfl, congrArg (fun z => A.sc (.int .u8 z)) (hBs i c hc), rfl, incI hΩ (by omega), trivial⟩⟩
  · have h := ltZf hΩ h
    have h : i = nm.length := by subst hΩ; have h : (nm.length : Int) ≤ (i : Int) := h; omega
    subst h
    rw [hBe]
    have hz := (hF 0).2.2.2.1
    refine loopX htab hΩ (fun k : Nat => ⟨[(3, .sc (.int .u8 (C k))), (5, .vw 1 0 (Ω.len (F k))), (35, i64 M), (36, i64 (Ω.int k))], 47, [none, some ⟨1, F k, false⟩]⟩) (fun k => k ≤ m) (fun k => m - k) 0
      (Nat.zero_le _) ?enter ?_
    case enter =>
      exact (Sbs.drop (r := 0) rfl).trans (Sbs.mk rfl (by show [none, some (Row.mk 1 [] false)] = [none, some (Row.mk 1 (F 0) false)]; rw [hF0]) ⟨rfl, by show A.vw 1 0 0 = A.vw 1 0 (Ω.len (F 0)); rw [hz], rfl, zeroI hΩ, trivial⟩)
    intro k hk
    obtain ⟨h1, h2, h3, h4, h5, h6, h7, h8⟩ := hF k
    cbv
    refine br (fun h => ?_) (fun h => ?_) <;> cbv
    · have h := ltZt hΩ h
      have h : k < m := by rw [hMi] at h; subst hΩ; have h : (k : Int) < (m : Int) := h; omega
      refine ⟨⟨rfl, okAll rfl, by show (Ω.len (F k) + 1) * 1 ≤ 140737488355328; omega, by show Ω.len (F k) + 1 ≤ 9223372036854775807; omega⟩, ?_⟩
      refine ⟨k + 1, by omega, by omega, (Sbs.cut 2 rfl).trans (Sbs.mk rfl (by show [none, some (Row.mk 1 (Ω.app (Ω.take (Ω.len (F k)) (F k)) [.sc (.int .u8 (C k))]) false)] = _; rw [h7]) ⟨congrArg (fun z => A.sc (.int .u8 z)) ?_, by show A.vw 1 0 (Ω.plus (Ω.len (F k)) (Ω.len [.sc (.int .u8 (C k))])) = _; rw [h8], rfl, incI hΩ (by omega), trivial⟩)⟩
      rw [h3]; subst hΩ
      show (31 * C k % 256 + 7) % 256 = _
      omega
    · have h := ltZf hΩ h
      have h : k = m := by rw [hMi] at h; subst hΩ; have h : (m : Int) ≤ (k : Int) := h; omega
      subst h
      refine ⟨⟨rfl, h5⟩, .of ?_⟩
      show A.sl true 1 (Ω.take (Ω.len (F k)) (F k)) = _
      rw [h6]
theorem c_l2Bytes (o : Pck) (hn : o.n.length ≤ 12) (hv : verF o.v = 0) (hs : inB o.s 1 200 = true) : PCtr PP n_spec_l2Bytes [o.enc false] (.sl true 1 ((bytK o).map byteA)) := by
  obtain ⟨Ω, hΩ⟩ : ∃ Ω, Ω = std := ⟨_, rfl⟩
  obtain ⟨m, C, F, ⟨hm, hm1, hm2⟩, hR, hF0, hF, hC0⟩ := byt_facts hΩ o hn hv hs
  rw [hR]
  clear hR
  obtain ⟨⟨a0, a1⟩, ⟨b0, b1⟩, ⟨c0, c1⟩⟩ := verF_in hv
  obtain ⟨ps, ds, bs, hen, -, -, -⟩ := enc_raw o
  rw [hen, hm]
  have hle := sumN_le o.n
  obtain ⟨B, hB⟩ : ∃ B : Nat → Int, ∀ i, B i = o.v.a + o.v.b + o.v.c + (sumN (o.n.take i) : Int) := ⟨_, fun _ => rfl⟩
  have hB0 : Ω.ar .add .i64 (Ω.ar .add .i64 o.v.a o.v.b) o.v.c = B 0 := by
    rw [hB]; subst hΩ; show IntKind.i64.wrap (IntKind.i64.wrap (o.v.a + o.v.b) + o.v.c) = o.v.a + o.v.b + o.v.c + ((0 : Nat) : Int); rw [wrap64 (x := o.v.a + o.v.b) (by omega) (by omega), wrap64 (by omega) (by omega)]; omega
  have hBs : ∀ i c, i < 12 → o.n[i]? = some c → Ω.ar .add .i64 (B i) (Ω.wrap .i64 (Ω.u8 c)) = B (i + 1) := fun i c hi h => by
    have h1 := sumN_le (o.n.take i)
    have h2 := c.toNat_lt
    rw [List.length_take] at h1
    rw [hB, hB, sumN_at h]; subst hΩ; show IntKind.i64.wrap (_ + IntKind.i64.wrap (c.toNat : Int)) = _; rw [wrap64 (x := (c.toNat : Int)) (by omega) (by omega), wrap64 (by omega) (by omega)]; omega
  have hBe : B o.n.length % 256 = C 0 ∧ 0 ≤ B o.n.length ∧ B o.n.length ≤ 100000 := by rw [hB, hC0, List.take_length]; omega
  clear hB hC0 hle
  generalize o.v.a = va at *
  generalize o.v.b = vb at *
  generalize o.v.c = vc at *
  generalize o.n = nm at *
  obtain ⟨M, hM⟩ : ∃ M : Int, M = (m : Int) := ⟨_, rfl⟩
  rw [← hM]
  have hMi : M = Ω.int m := by subst hΩ; exact hM
  have htab := tab
  have hmo := hmo
  refine PCtr.walk tab hΩ fn_spec_l2Bytes rfl ?_
  generalize PP = P at *
  cbv
  refine loopX htab hΩ (fun i : Nat => ⟨[(1, .pt 0 0 0), (3, i64 (B i)), (4, i64 (Ω.int i))], 50, [some ⟨8, [.agg [str nm, i64 va, i64 vb, i64 vc, i64 M, .sl false 1 ps, .sl false 1 ds, .sl false 7 bs]], true⟩]⟩) (fun i => i ≤ nm.length) (fun i => nm.length - i) 0
    (Nat.zero_le _) (Sbs.mk rfl rfl ⟨rfl, congrArg i64 hB0, zeroI hΩ, trivial⟩) ?_
  intro i hi
  cbv
  refine br (fun h => ?_) (fun h => ?_) <;> cbv
  · have h := ltZt hΩ h
    have h : i < nm.length := by subst hΩ; have h : (i : Int) < (nm.length : Int) := h; omega
    obtain ⟨c, hc⟩ := at_of (cs := nm) h
    refine ⟨⟨nnI hΩ⟩, c, by subst hΩ; exact hc, ?_⟩
    cbv
    exact ⟨i + 1, by omega, by omega, Sbs.mk rfl rfl ⟨rfl, congrArg i64 (hBs i c (by omega) hc), incI hΩ (by omega), trivial⟩⟩
  · have h := ltZf hΩ h
    have h : i = nm.length := by subst hΩ; have h : (nm.length : Int) ≤ (i : Int) := h; omega
    subst h
    obtain ⟨e1, e2, e3⟩ := hBe
    generalize B nm.length = b at *
    have hz := (hF 0).2.2.2.1
    refine loopX htab hΩ (fun k : Nat × Int => ⟨[(1, .pt 0 0 0), (3, i64 k.2), (5, .vw 1 0 (Ω.len (F k.1))), (6, i64 (Ω.int k.1))], 50, [some ⟨8, [.agg [str nm, i64 va, i64 vb, i64 vc, i64 M, .sl false 1 ps, .sl false 1 ds, .sl false 7 bs]], true⟩, some ⟨1, F k.1, false⟩]⟩) (fun k => k.1 ≤ m ∧ k.2 % 256 = C k.1 ∧ 0 ≤ k.2 ∧ k.2 ≤ 100000) (fun k => m - k.1) (0, b)
      ⟨Nat.zero_le _, e1, e2, e3⟩ ?enter ?_
    case enter =>
      exact Sbs.mk rfl (by show [_, some (Row.mk 1 [] false)] = [_, some (Row.mk 1 (F 0) false)]; rw [hF0]; rfl) ⟨rfl, rfl, by show A.vw 1 0 0 = A.vw 1 0 (Ω.len (F 0)); rw [hz], zeroI hΩ, trivial⟩
    rintro ⟨k, y⟩ ⟨hk, hy, y0, y1⟩
    dsimp only at hk hy y0 y1 ⊢
    obtain ⟨h1, h2, h3, h4, h5, h6, h7, h8⟩ := hF k
    have hrem : Ω.ar .rem .i64 y 256 = C k := by subst hΩ; show y.tmod 256 = _; rw [Int.tmod_eq_emod_of_nonneg y0]; exact hy
    have hwr : Ω.wrap .u8 (C k) = C k := by subst hΩ; show C k % 256 = _; omega
    have hnx : Ω.ar .add .i64 (Ω.ar .mul .i64 31 (Ω.ar .rem .i64 y 256)) 7 = 31 * C k + 7 := by
      rw [hrem]; subst hΩ; show IntKind.i64.wrap (IntKind.i64.wrap (31 * C k) + 7) = _; rw [wrap64 (x := 31 * C k) (by omega) (by omega), wrap64 (by omega) (by omega)]
    rw [← hwr, ← hrem] at h7 h8
    cbv
    refine br (fun h => ?_) (fun h => ?_) <;> cbv
    · have h := ltZt hΩ h
      have h : k < m := by rw [hMi] at h; subst hΩ; have h : (k : Int) < (m : Int) := h; omega
      refine ⟨⟨by decide⟩, ?_⟩
      refine ⟨⟨rfl, okAll rfl, by show (Ω.len (F k) + 1) * 1 ≤ 140737488355328; omega, by show Ω.len (F k) + 1 ≤ 9223372036854775807; omega⟩, ?_⟩
      refine ⟨(k + 1, 31 * C k + 7), ⟨by show k + 1 ≤ m; omega, h3.symm, by show 0 ≤ 31 * C k + 7; omega, by show 31 * C k + 7 ≤ 100000; omega⟩, by show m - (k + 1) < m - k; omega, (Sbs.cut 2 rfl).trans (Sbs.mk rfl ?_ ⟨rfl, congrArg i64 hnx, by show A.vw 1 0 (Ω.plus (Ω.len (F k)) (Ω.len [.sc (.int .u8 (Ω.wrap .u8 (Ω.ar .rem .i64 y 256)))])) = _; rw [h8], incI hΩ (by omega), trivial⟩)⟩
      show [_, some (Row.mk 1 (Ω.app (Ω.take (Ω.len (F k)) (F k)) [.sc (.int .u8 (Ω.wrap .u8 (Ω.ar .rem .i64 y 256)))]) false)] = _; rw [h7]; rfl
    · have h := ltZf hΩ h
      have h : k = m := by rw [hMi] at h; subst hΩ; have h : (m : Int) ≤ (k : Int) := h; omega
      subst h
      refine ⟨⟨rfl, h5⟩, .of ?_⟩
      show A.sl true 1 (Ω.take (Ω.len (F k)) (F k)) = _
      rw [h6]
end Go.Proofs.YtljjcffnomdhhaaGreatDoor

/- Walks: the packages of a set whose files are not there. Plain theorems. -/
set_option linter.unusedVariables false
set_option linter.unusedSimpArgs false
namespace Go.Proofs.YtljjcffnomdhhaaGreatDoor
open Go Go.Fw
set_option maxRecDepth 100000
/-- A package of a sound catalog, in cells; its path and bytes are small. -/
theorem pk_facts {c : List Pck} {k : Int} (hc : catF c = 0) (h : inB k 0 ((c.length : Int) - 1) = true) : 0 ≤ k ∧ (c.map (Pck.enc false))[k.toNat]? = some ((pk c k).enc false) ∧ (pk c k).n.length ≤ 12 ∧ verF (pk c k).v = 0 ∧ inB (pk c k).s 1 200 = true ∧ (bytK (pk c k)).length ≤ 200 := by
  obtain ⟨h0, h1, h2, h3⟩ := pk_at h
  obtain ⟨g1, g2, g3⟩ := packF_ok ((cat_ok hc).2 _ h3)
  refine ⟨h0, by rw [List.getElem?_map, h2]; rfl, nameF_len g1, g2, g3, ?_⟩
  have hs : (1 : Int) ≤ (pk c k).s ∧ (pk c k).s ≤ 200 := by unfold inB at g3; simpa using g3
  unfold bytK
  rw [bytN_len]
  omega
/-- A disk in order, its files small. -/
structure Dsk.Mid (x : Dsk) : Prop where
  n : x.f.length ≤ 1048576
  o : ordF x.f
  d4 : ∀ f ∈ x.f, f.d.length ≤ 4000
theorem frz_B1 (l : List UInt8) : (l.map byteA).map frz = l.map byteA := by rw [List.map_map]; exact List.map_congr_left fun c _ => rfl
theorem c_lacking1 (c : List Pck) (x : Dsk) (k : Int) (hc : catF c = 0) (hx : x.Mid) (hk : inB k 0 ((c.length : Int) - 1) = true) : PCtr PP n_impl_lacking_1 [i64 k, x.see, .rp [encP c]] (boo (lackB c x.f k)) := by
  obtain ⟨Ω, hΩ⟩ : ∃ Ω, Ω = std := ⟨_, rfl⟩
  obtain ⟨R, hR⟩ : ∃ R, R = lackB c x.f k := ⟨_, rfl⟩
  rw [← hR]
  unfold lackB at hR
  obtain ⟨k0, hat, hn, hv, hs, hbl⟩ := pk_facts hc hk
  generalize pk c k = o at *
  have hp := c_path o (by omega) hv
  have hd := c_data x (pathK o) hx.n hx.o
  have hb := c_bytes o hn hv hs
  have hdl := datF_len hx.d4 (pathK o)
  generalize pathK o = p at *
  have he := c_EqualB (datF x.f p) (bytK o) (by omega) (by omega)
  have hrb := roF_B (bytK o)
  have hfb := frz_B1 (bytK o)
  have r0 : hasF x.f p = false → R = true := fun h => by rw [hR, h]; rfl
  have r1 : hasF x.f p = true → R = !decide (datF x.f p = bytK o) := fun h => by rw [hR, h]; rfl
  clear hR
  generalize datF x.f p = d at *
  generalize hasF x.f p = h at *
  obtain ⟨ds, hds⟩ : ∃ ds, ds = d.map byteA := ⟨_, rfl⟩
  obtain ⟨bs, hbs⟩ : ∃ bs, bs = (bytK o).map byteA := ⟨_, rfl⟩
  generalize decide (d = bytK o) = e at *
  rw [← hds] at hd he
  rw [← hbs] at hb he hrb hfb
  have hlb : Ω.len bs = bs.length := by subst hΩ; rfl
  obtain ⟨ps, dd, bb, hen, -, -, -⟩ := enc_raw o
  rw [hen] at hat hp hb
  unfold Dsk.see encP Dsk.enc at *
  generalize x.f.map (Fil.enc false) = xs at *
  generalize c.map (Pck.enc false) = cs at *
  generalize x.bg = v1 at *
  generalize x.wr = v2 at *
  generalize x.st = v3 at *
  generalize x.dn = v4 at *
  have htab := tab
  have hmo := hmo
  refine PCtr.walk tab hΩ fn_impl_lacking_1 rfl ?_
  generalize PP = P at *
  cbv
  refine ⟨VC_pl htab hΩ hmo (.qs [0, 1, 2, 3, 4] (.s 5 (.s 6 (.qs [7, 8, 9, 10, 11] .fin)))) (by kernel_rfl) ?_⟩
  cbv
  refine ⟨⟨k0⟩, _, hat, ?_⟩
  cbv
  refine call_pure hΩ 4 hp rfl (fits _) rfl rfl ?_
  cbv
  refine call_share hΩ 4 hd rfl (fits _) rfl ?_
  cbv
  refine br (fun g => ?_) (fun g => ?_) <;> cbv
  · have g := notA hΩ g
    rw [r0 g]
    exact .same
  · have g := notB hΩ g
    have r1 := r1 g
    refine ⟨⟨k0⟩, _, hat, ?_⟩
    cbv
    refine call_pure hΩ 4 hb rfl (fits _) hrb rfl ?_
    cbv
    refine call_pure hΩ 4 he (mapO2 rfl (ro_vw rfl hlb hfb)) (fits _) rfl rfl ?_
    cbv
    exact .of (congrArg boo (by rw [r1]; subst hΩ; rfl))
/-- What is captured may be read by all. -/
theorem c_lacking (c : List Pck) (x : Dsk) (s : List Int) (hc : catF c = 0) (hx : x.Mid) (hk : Told c s) : PCtr PP n_impl_lacking [encP c, x.enc false false, .sl false 1 (s.map i64)] (ints (lackF c x.f s)) := by
  obtain ⟨Ω, hΩ⟩ : ∃ Ω, Ω = std := ⟨_, rfl⟩
  have hsl := hk.len
  have hcl := (cat_ok hc).1
  have h := c_those s (by omega) n_impl_lacking_1 [x.see, .rp [encP c]] (lackB c x.f) ⟨fun S k => by unfold Dsk.see encP; rfl, rfl, fun r => rfl, fun k hm => c_lacking1 c x k hc hx (hk.2 k hm)⟩
  have hr := roFInt (lackF c x.f s)
  unfold lackF at *
  unfold ints at *
  generalize (s.filter (lackB c x.f)).map i64 = zs at *
  generalize s.map i64 = ss at *
  have hle : Ω.len zs ≤ zs.length := by subst hΩ; exact Nat.le_refl _
  have htk : Ω.take (Ω.len zs) zs = zs := takeAll hΩ _
  unfold Dsk.see encP Dsk.enc at *
  generalize x.f.map (Fil.enc false) = xs at *
  generalize c.map (Pck.enc false) = cs at *
  generalize x.bg = v1 at *
  generalize x.wr = v2 at *
  generalize x.st = v3 at *
  generalize x.dn = v4 at *
  have htab := tab
  have hmo := hmo
  refine PCtr.walk tab hΩ fn_impl_lacking rfl ?_
  generalize PP = P at *
  cbv
  refine call_pure hΩ 5 h (ro_clo2 rfl (mapO2 (roPt rfl rfl) (roPt rfl rfl))) (fits _) hr rfl ?_
  cbv
  exact ⟨⟨rfl, hle⟩, .of (congrArg (A.sl true 1) htk)⟩
/-- The same, as the reference reckons it. -/
theorem c_l8Lacking (c : List Pck) (x : Dsk) (s : List Int) (hc : catF c = 0) (hx : x.Mid) (hk : Told c s) : PCtr PP n_spec_l8Lacking [encP c, x.see, .sl false 1 (s.map i64)] (ints (lackF c x.f s)) := by
  obtain ⟨Ω, hΩ⟩ : ∃ Ω, Ω = std := ⟨_, rfl⟩
  obtain ⟨F, hF⟩ := grw hΩ i64
  have hsl := hk.len
  have hcl := (cat_ok hc).1
  have hst := fun (i : Nat) (k : Int) (h : s[i]? = some k) => lackF_at (c := c) (l := x.f) h
  have hl0 : lackF c x.f (s.take 0) = [] := rfl
  have hln : lackF c x.f s = lackF c x.f (s.take s.length) := by rw [List.take_length]
  have hll : ∀ i, (lackF c x.f (s.take i)).length ≤ 24 := fun i => Nat.le_trans (List.length_filter_le _ _) (by rw [List.length_take]; omega)
  have hat : ∀ k ∈ s, ∃ (o : Pck) (p : List UInt8) (ds : List A) (h : Bool) (z : Int) (bs : List A), (0 ≤ k ∧ (c.map (Pck.enc false))[k.toNat]? = some (o.enc false)) ∧ (PCtr PP n_spec_l8Path [o.enc false] (str p) ∧ PCtr PP n_spec_l7Find [x.see, str p] (i64 z) ∧ PCtr PP n_spec_l2Bytes [o.enc false] (.sl true 1 bs)) ∧
      (h = false → z < 0 ∧ lackB c x.f k = true) ∧ (h = true → (0 ≤ z ∧ ∃ q, (x.f.map (Fil.enc false))[z.toNat]? = some (.agg [str q, .sl false 1 ds])) ∧ PCtr PP n_spec_l8Same [.sl false 1 ds, .sl false 1 bs] (boo (!lackB c x.f k))) ∧ roFree (.sl true 1 bs) = true ∧ bs.map frz = bs := fun k hm => by
    obtain ⟨k0, hat, hn, hv, hs, hbl⟩ := pk_facts hc (hk.2 k hm)
    obtain ⟨f1, f2⟩ := fnd_of hx.o (pathK (pk c k))
    refine ⟨pk c k, pathK (pk c k), (datF x.f (pathK (pk c k))).map byteA, hasF x.f (pathK (pk c k)), fndF x.f (pathK (pk c k)), (bytK (pk c k)).map byteA, ⟨k0, hat⟩, ⟨c_l8Path _ (by omega) hv, c_l7Find x _ hx.n, c_l2Bytes _ hn hv hs⟩, fun h => ⟨(f1 h).1, by unfold lackB; rw [h]; rfl⟩, fun h => ⟨f2 h, ?_⟩, roF_B _, frz_B1 _⟩
    have e : (!lackB c x.f k) = decide (datF x.f (pathK (pk c k)) = bytK (pk c k)) := by unfold lackB; rw [h]; simp
    rw [e]
    exact c_l8Same _ _
  unfold ints
  rw [hln]
  generalize lackB c x.f = B at *
  obtain ⟨L, hL⟩ : ∃ L : Nat → List Int, ∀ i, L i = lackF c x.f (s.take i) := ⟨_, fun _ => rfl⟩
  simp only [← hL] at hst hl0 hll ⊢
  obtain ⟨ss, hss⟩ : ∃ ss, ss = s.map i64 := ⟨_, rfl⟩
  rw [← hss, hF.eq]
  clear hL hln
  unfold Dsk.see encP at *
  generalize x.f.map (Fil.enc false) = xs at *
  generalize c.map (Pck.enc false) = cs at *
  generalize x.bg = v1 at *
  generalize x.wr = v2 at *
  generalize x.st = v3 at *
  generalize x.dn = v4 at *
  have htab := tab
  have hmo := hmo
  refine PCtr.walk tab hΩ fn_spec_l8Lacking rfl ?_
  generalize PP = P at *
  cbv
  refine loopX htab hΩ (fun i : Nat => ⟨[(0, .sl false 8 cs), (1, .rp [.sl false 2 xs, i64 v1, i64 v2, i64 v3, boo v4]), (2, .sl false 1 ss), (7, .vw 0 0 (Ω.len (F (L i)))), (8, i64 (Ω.int i))], 57, [some ⟨1, F (L i), false⟩]⟩) (fun i => i ≤ s.length) (fun i => s.length - i) 0
    (Nat.zero_le _) (Sbs.mk rfl (by show [some (Row.mk 1 [] false)] = [some (Row.mk 1 (F (L 0)) false)]; rw [hl0, hF.nil]) ⟨rfl, rfl, rfl, by show A.vw 0 0 0 = A.vw 0 0 (Ω.len (F (L 0))); rw [hl0, hF.z], zeroI hΩ, trivial⟩) ?_
  intro i hi
  have hlo := hF.lo (L i)
  have hfl := hF.len (L i)
  have htk := hF.tk (L i)
  have hle := hF.le (L i)
  have h24 := hll i
  cbv
  refine br (fun h => ?_) (fun h => ?_) <;> cbv
  · replace h := ltI hΩ h
    have h : i < s.length := by rw [hss, List.length_map] at h; exact h
    obtain ⟨k, hki⟩ := at_of (cs := s) h
    have hst := hst i k hki
    have hap := hF.app (L i) k
    have hpl := hF.plus (L i) k
    obtain ⟨o, p, ds, hh, z, bs, ⟨k0, hat⟩, ⟨hp, hz, hb⟩, hno, hyes, hrb, hfb⟩ := hat k (List.mem_of_getElem? hki)
    have hlb : Ω.len bs = bs.length := by subst hΩ; rfl
    obtain ⟨ps, dd, bb, hen, -, -, -⟩ := enc_raw o
    rw [hen] at hat hp hb
    have grow : B k = true → L (i + 1) = L i ++ [k] := fun e => by rw [hst, e]; rfl
    have keep : B k = false → L (i + 1) = L i := fun e => by rw [hst, e]; simp
    clear hst
    generalize B k = b at *
    refine ⟨⟨nnI hΩ⟩, _, rdI hΩ hss hki, ?_⟩
    cbv
    refine ⟨⟨k0⟩, _, hat, ?_⟩
    cbv
    refine call_pure hΩ 4 hp rfl (fits _) rfl rfl ?_
    cbv
    refine call_pure hΩ 4 hz rfl (fits _) rfl rfl ?_
    cbv
    refine ⟨VC_pl htab hΩ hmo (.qs [0, 1, 2, 3, 4, 5, 6, 7, 8, 9, 10, 11, 12, 13, 14, 15, 16, 17] (.s 18 (.s 19 (.s 20 (.s 21 .fin))))) (by kernel_rfl) ?_⟩
    cbv
    refine br (fun g => ?_) (fun g => ?_) <;> cbv
    · have g := ltZt hΩ g
      have hb1 : b = true := by
        cases hh with
        | true => have := (hyes rfl).1.1; omega
        | false => exact (hno rfl).2
      refine ⟨⟨nnI hΩ⟩, _, rdI hΩ hss hki, ?_⟩
      cbv
      refine ⟨⟨rfl, okAll rfl, by show (Ω.len (F (L i)) + 1) * 8 ≤ 140737488355328; omega, by show Ω.len (F (L i)) + 1 ≤ 9223372036854775807; omega⟩, ?_⟩
      exact ⟨i + 1, by omega, by omega, (Sbs.cut 1 rfl).trans (Sbs.mk rfl (by show [some (Row.mk 1 (Ω.app (Ω.take (Ω.len (F (L i))) (F (L i))) [i64 k]) false)] = _; rw [hap, grow hb1]) ⟨rfl, rfl, rfl, by show A.vw 0 0 (Ω.plus (Ω.len (F (L i))) (Ω.len [i64 k])) = _; rw [hpl, grow hb1], incI hΩ (by omega), trivial⟩)⟩
    · have g := ltZf hΩ g
      cases hh with
      | false => have := (hno rfl).1; omega
      | true =>
      obtain ⟨⟨z0, q, hq⟩, hsame⟩ := hyes rfl
      refine ⟨⟨z0⟩, _, hq, ?_⟩
      cbv
      refine ⟨⟨nnI hΩ⟩, _, rdI hΩ hss hki, ?_⟩
      cbv
      refine ⟨⟨k0⟩, _, hat, ?_⟩
      cbv
      refine call_pure hΩ 4 hb rfl (fits _) hrb rfl ?_
      cbv
      refine call_pure hΩ 4 hsame (mapO2 rfl (ro_vw rfl hlb hfb)) (fits _) rfl rfl ?_
      cbv
      refine br (fun g' => ?_) (fun g' => ?_) <;> cbv
      · have hb1 : b = true := by subst hΩ; cases b with | true => rfl | false => cases g'
        refine ⟨⟨nnI hΩ⟩, _, rdI hΩ hss hki, ?_⟩
        cbv
        refine ⟨⟨rfl, okAll rfl, by show (Ω.len (F (L i)) + 1) * 8 ≤ 140737488355328; omega, by show Ω.len (F (L i)) + 1 ≤ 9223372036854775807; omega⟩, ?_⟩
        exact ⟨i + 1, by omega, by omega, (Sbs.cut 1 rfl).trans (Sbs.mk rfl (by show [some (Row.mk 1 (Ω.app (Ω.take (Ω.len (F (L i))) (F (L i))) [i64 k]) false)] = _; rw [hap, grow hb1]) ⟨rfl, rfl, rfl, by show A.vw 0 0 (Ω.plus (Ω.len (F (L i))) (Ω.len [i64 k])) = _; rw [hpl, grow hb1], incI hΩ (by omega), trivial⟩)⟩
      · have hb0 : b = false := by subst hΩ; cases b with | false => rfl | true => cases g'
        exact ⟨i + 1, by omega, by omega, (Sbs.cut 1 rfl).trans (Sbs.mk rfl (by show [some (Row.mk 1 (F (L i)) false)] = _; rw [keep hb0]) ⟨rfl, rfl, rfl, by show A.vw 0 0 (Ω.len (F (L i))) = _; rw [keep hb0], incI hΩ (by omega), trivial⟩)⟩
  · replace h := geI hΩ h
    have : i = s.length := by rw [hss, List.length_map] at h; omega
    subst this
    exact ⟨⟨rfl, hle⟩, .of (congrArg (A.sl true 1) htk)⟩
end Go.Proofs.YtljjcffnomdhhaaGreatDoor

/- Walks: the text of a term. Plain theorems. -/
set_option linter.unusedVariables false
set_option linter.unusedSimpArgs false
namespace Go.Proofs.YtljjcffnomdhhaaGreatDoor
open Go Go.Fw
set_option maxRecDepth 100000
theorem bangT {D : Bool} (h : (!D) = true) : D = false := by cases D <;> simp_all
theorem bangF {D : Bool} (h : (!D) = false) : D = true := by cases D <;> simp_all
theorem cmpV_dec (a b : Ver) : decide (cmpV a b = 0) = decide (a = b) := by rw [decide_eq_decide]; exact cmpV_zero
theorem c_FormatTerm (t : Trm) : PCtr PP n_impl_FormatTerm [t.enc] (str (fmtT t)) := by
  obtain ⟨Ω, hΩ⟩ : ∃ Ω, Ω = std := ⟨_, rfl⟩
  have htab := tab
  have hmo := hmo
  have hve := verEq
  obtain ⟨r, hr⟩ : ∃ r, r = fmtT t := ⟨_, rfl⟩
  rw [← hr]
  have h1 := c_implTermFault t
  have h3 := c_implTop
  have hp := @trmF_parts t
  unfold fmtT trmT at hr
  generalize trmF t = F at *
  obtain ⟨n, l, h⟩ := t
  dsimp only at *
  have hl : F = 0 → PCtr PP n_impl_Version_text [l.enc] (str (verT l)) ∧ (verT l).length ≤ 11 := fun e => ⟨c_text l (hp e).2.1, verT_len (hp e).2.1⟩
  have hh : F = 0 → decide (h = topV) = false → PCtr PP n_impl_Version_text [h.enc] (str (verT h)) ∧ (verT h).length ≤ 11 := fun e g => by
    have := (hp e).2.2.resolve_left (by simpa using g)
    exact ⟨c_text h this, verT_len this⟩
  have hn : F = 0 → n.length ≤ 12 := fun e => nameF_len (hp e).1
  have hr1 : F ≠ 0 → [] = r := fun e => by rw [hr, if_neg e]
  have hr2 : F = 0 → ∀ a b, decide (l = Ver.zero) = a → decide (h = topV) = b → r = (n ++ (if a then [] else [62, 61] ++ verT l)) ++ (if b then [] else [60] ++ verT h) := fun e a b ha hb => by
    rw [hr, if_pos e, ← ha, ← hb]; simp
  clear hr hp
  generalize verT l = A2 at *
  generalize verT h = A3 at *
  generalize topV = tv at *
  refine PCtr.walk tab hΩ fn_impl_FormatTerm rfl ?_
  generalize PP = P at *
  cbv
  refine call_pure hΩ 3 h1 rfl (fits _) rfl rfl ?_
  cbv
  refine br (fun g => ?_) (fun g => ?_) <;> cbv
  · exact .of (congrArg str (hr1 (neI_t hΩ g)))
  have g := neI_f hΩ g
  have hr2 := hr2 g
  obtain ⟨hl, ll⟩ := hl g
  have hh := hh g
  have hn := hn g
  refine eqX_neq hve l Ver.zero ?_
  generalize hD : decide (l = Ver.zero) = D at *
  cbv
  refine br (fun k => ?_) (fun k => ?_) <;> cbv
  · have k := bangT k
    subst k
    refine call_pure hΩ 3 hl rfl (fits _) rfl rfl ?_
    cbv
    refine ⟨⟨by show ((2 + A2.length : Nat) : Int) ≤ _; omega⟩, ⟨by show ((n.length + (Ω.cat [62, 61] A2).length : Nat) : Int) ≤ _; rw [catL hΩ]; simp; omega⟩, ?_⟩
    cbv
    refine ⟨VC_drawn htab hΩ hmo (by kernel_rfl) ?_⟩
    cbv
    refine QCall_pure (k := 3) h3 rfl (fits _) rfl ?_
    cbv
    refine eqX_neq hve h tv ?_
    generalize hE : decide (h = tv) = E at *
    cbv
    refine br (fun k => ?_) (fun k => ?_) <;> cbv
    · have k := bangT k
      subst k
      obtain ⟨hh, lh⟩ := hh rfl
      refine call_pure hΩ 3 hh rfl (fits _) rfl rfl ?_
      cbv
      refine ⟨⟨by show ((1 + A3.length : Nat) : Int) ≤ _; omega⟩, ⟨by show (((Ω.cat n (Ω.cat [62, 61] A2)).length + (Ω.cat [60] A3).length : Nat) : Int) ≤ _; rw [catL hΩ, catL hΩ, catL hΩ]; simp; omega⟩, ?_⟩
      cbv
      refine .of (congrArg str ?_)
      rw [hr2 _ _ rfl rfl]; subst hΩ; rfl
    · have k := bangF k
      subst k
      refine .of (congrArg str ?_)
      rw [hr2 _ _ rfl rfl]; subst hΩ; exact (List.append_nil _).symm
  · have k := bangF k
    subst k
    refine ⟨VC_drawn htab hΩ hmo (by kernel_rfl) ?_⟩
    cbv
    refine QCall_pure (k := 3) h3 rfl (fits _) rfl ?_
    cbv
    refine eqX_neq hve h tv ?_
    generalize hE : decide (h = tv) = E at *
    cbv
    refine br (fun k => ?_) (fun k => ?_) <;> cbv
    · have k := bangT k
      subst k
      obtain ⟨hh, lh⟩ := hh rfl
      refine call_pure hΩ 3 hh rfl (fits _) rfl rfl ?_
      cbv
      refine ⟨⟨by show ((1 + A3.length : Nat) : Int) ≤ _; omega⟩, ⟨by show ((n.length + (Ω.cat [60] A3).length : Nat) : Int) ≤ _; rw [catL hΩ]; simp; omega⟩, ?_⟩
      cbv
      refine .of (congrArg str ?_)
      rw [hr2 _ _ rfl rfl]; subst hΩ; show _ = (n ++ []) ++ _; rw [List.append_nil]; rfl
    · have k := bangF k
      subst k
      refine .of (congrArg str ?_)
      rw [hr2 _ _ rfl rfl]; subst hΩ; simp
end Go.Proofs.YtljjcffnomdhhaaGreatDoor

/- Walks: the text of a term. Plain theorems. -/
set_option linter.unusedVariables false
set_option linter.unusedSimpArgs false
namespace Go.Proofs.YtljjcffnomdhhaaGreatDoor
open Go Go.Fw
set_option maxRecDepth 100000
theorem c_specFormatTerm (t : Trm) : PCtr PP n_spec_FormatTerm [t.enc] (str (fmtT t)) := by
  obtain ⟨Ω, hΩ⟩ : ∃ Ω, Ω = std := ⟨_, rfl⟩
  have htab := tab
  have hmo := hmo
  have hve := verEq
  obtain ⟨r, hr⟩ : ∃ r, r = fmtT t := ⟨_, rfl⟩
  rw [← hr]
  have h1 := c_specTermFault t
  have h3 := c_specTop
  have hp := @trmF_parts t
  have hcv := c_CompareVersions
  unfold fmtT trmT at hr
  generalize trmF t = F at *
  obtain ⟨n, l, h⟩ := t
  dsimp only at *
  have hl : F = 0 → PCtr PP n_spec_FormatVersion [l.enc] (str (verT l)) ∧ (verT l).length ≤ 11 := fun e => ⟨c_specFormatVersion l (hp e).2.1, verT_len (hp e).2.1⟩
  have hh : F = 0 → decide (h = topV) = false → PCtr PP n_spec_FormatVersion [h.enc] (str (verT h)) ∧ (verT h).length ≤ 11 := fun e g => by
    have := (hp e).2.2.resolve_left (by simpa using g)
    exact ⟨c_specFormatVersion h this, verT_len this⟩
  have hn : F = 0 → n.length ≤ 12 := fun e => nameF_len (hp e).1
  have hr1 : F ≠ 0 → [] = r := fun e => by rw [hr, if_neg e]
  have hr2 : F = 0 → ∀ a b, decide (l = Ver.zero) = a → decide (h = topV) = b → r = (n ++ (if a then [] else [62, 61] ++ verT l)) ++ (if b then [] else [60] ++ verT h) := fun e a b ha hb => by
    rw [hr, if_pos e, ← ha, ← hb]; simp
  clear hr hp
  have hcv := hcv l Ver.zero
  have hcd := cmpV_dec l Ver.zero
  generalize cmpV l Ver.zero = C at *
  generalize verT l = A2 at *
  generalize verT h = A3 at *
  generalize topV = tv at *
  refine PCtr.walk tab hΩ fn_spec_FormatTerm rfl ?_
  generalize PP = P at *
  cbv
  refine call_pure hΩ 3 h1 rfl (fits _) rfl rfl ?_
  cbv
  refine br (fun g => ?_) (fun g => ?_) <;> cbv
  · exact .of (congrArg str (hr1 (neI_t hΩ g)))
  have g := neI_f hΩ g
  have hr2 := hr2 g
  obtain ⟨hl, ll⟩ := hl g
  have hh := hh g
  have hn := hn g
  refine call_pure hΩ 3 hcv rfl (fits _) rfl rfl ?_
  cbv
  generalize hD : decide (l = Ver.zero) = D at *
  refine br (fun k => ?_) (fun k => ?_) <;> cbv
  · have k : D = false := by rw [← hcd]; exact decide_eq_false (neI_t hΩ k)
    subst k
    refine ⟨⟨by show ((n.length + 2 : Nat) : Int) ≤ _; omega⟩, ?_⟩
    refine call_pure hΩ 3 hl rfl (fits _) rfl rfl ?_
    cbv
    refine ⟨⟨by show (((Ω.cat n [62, 61]).length + A2.length : Nat) : Int) ≤ _; rw [catL hΩ]; simp; omega⟩, ?_⟩
    cbv
    refine ⟨VC_drawn htab hΩ hmo (by kernel_rfl) ?_⟩
    cbv
    refine QCall_pure (k := 3) h3 rfl (fits _) rfl ?_
    cbv
    refine eqX_neq hve h tv ?_
    generalize hE : decide (h = tv) = E at *
    cbv
    refine br (fun k => ?_) (fun k => ?_) <;> cbv
    · have k := bangT k
      subst k
      obtain ⟨hh, lh⟩ := hh rfl
      refine ⟨⟨by show (((Ω.cat (Ω.cat n [62, 61]) A2).length + 1 : Nat) : Int) ≤ _; rw [catL hΩ, catL hΩ]; simp; omega⟩, ?_⟩
      refine call_pure hΩ 3 hh rfl (fits _) rfl rfl ?_
      cbv
      refine ⟨⟨by show (((Ω.cat (Ω.cat (Ω.cat n [62, 61]) A2) [60]).length + A3.length : Nat) : Int) ≤ _; rw [catL hΩ, catL hΩ, catL hΩ]; simp; omega⟩, ?_⟩
      cbv
      refine .of (congrArg str ?_)
      rw [hr2 _ _ rfl rfl]; subst hΩ; show ((n ++ [62, 61]) ++ A2) ++ [60] ++ A3 = (n ++ ([62, 61] ++ A2)) ++ ([60] ++ A3); simp
    · have k := bangF k
      subst k
      refine .of (congrArg str ?_)
      rw [hr2 _ _ rfl rfl]; subst hΩ; show (n ++ [62, 61]) ++ A2 = (n ++ ([62, 61] ++ A2)) ++ []; simp
  · have k : D = true := by rw [← hcd]; exact decide_eq_true (neI_f hΩ k)
    subst k
    refine ⟨VC_drawn htab hΩ hmo (by kernel_rfl) ?_⟩
    cbv
    refine QCall_pure (k := 3) h3 rfl (fits _) rfl ?_
    cbv
    refine eqX_neq hve h tv ?_
    generalize hE : decide (h = tv) = E at *
    cbv
    refine br (fun k => ?_) (fun k => ?_) <;> cbv
    · have k := bangT k
      subst k
      obtain ⟨hh, lh⟩ := hh rfl
      refine ⟨⟨by show ((n.length + 1 : Nat) : Int) ≤ _; omega⟩, ?_⟩
      refine call_pure hΩ 3 hh rfl (fits _) rfl rfl ?_
      cbv
      refine ⟨⟨by show (((Ω.cat n [60]).length + A3.length : Nat) : Int) ≤ _; rw [catL hΩ]; simp; omega⟩, ?_⟩
      cbv
      refine .of (congrArg str ?_)
      rw [hr2 _ _ rfl rfl]; subst hΩ; show (n ++ [60]) ++ A3 = (n ++ []) ++ ([60] ++ A3); simp
    · have k := bangF k
      subst k
      refine .of (congrArg str ?_)
      rw [hr2 _ _ rfl rfl]; subst hΩ; simp
end Go.Proofs.YtljjcffnomdhhaaGreatDoor

/- Walks: the text of a set; do machines show the same. Plain theorems. -/
set_option linter.unusedVariables false
set_option linter.unusedSimpArgs false
namespace Go.Proofs.YtljjcffnomdhhaaGreatDoor
open Go Go.Fw
set_option maxRecDepth 100000
/-- The line of a package, and the text of a set. -/
def lnK (o : Pck) : List UInt8 := o.n ++ [32] ++ verT o.v
def setT (c : List Pck) (s : List Int) : List UInt8 := (s.map fun k => lnK (pk c k) ++ [10]).flatten
theorem setT_at {c : List Pck} {s : List Int} {i : Nat} {k : Int} (h : s[i]? = some k) : setT c (s.take (i + 1)) = setT c (s.take i) ++ (lnK (pk c k) ++ [10]) := by
  unfold setT
  rw [List.take_add_one, h]
  simp
theorem lnK_len {o : Pck} (hn : o.n.length ≤ 12) (hv : verF o.v = 0) : (lnK o).length ≤ 24 := by
  have := verT_len hv
  unfold lnK
  simp
  omega
theorem setT_len {c : List Pck} (hc : catF c = 0) : ∀ s : List Int, (∀ k ∈ s, inB k 0 ((c.length : Int) - 1) = true) → (setT c s).length ≤ 25 * s.length
  | [], _ => Nat.zero_le _
  | k :: s, h => by
    obtain ⟨-, -, hn, hv, -, -⟩ := pk_facts hc (h k (.head _))
    have h1 := lnK_len hn hv
    have h2 := setT_len hc s fun k hk => h k (.tail _ hk)
    unfold setT at h2 ⊢
    simp at h2 ⊢
    omega
theorem join2 (a b : List UInt8) : Lib.join [a, b] [32] = a ++ [32] ++ b := by simp [Lib.join]
theorem txt_facts (c : List Pck) (s : List Int) (hc : catF c = 0) (hk : Told c s) : ∃ G : Nat → List UInt8, (setT c s = G s.length ∧ [] = G 0) ∧ (∀ i k, s[i]? = some k → ∃ o : Pck, (0 ≤ k ∧ (c.map (Pck.enc false))[k.toNat]? = some (o.enc false)) ∧ (G i).length ≤ 1000 ∧ o.n.length ≤ 12 ∧ verF o.v = 0 ∧ (verT o.v).length ≤ 11 ∧ G (i + 1) = G i ++ (o.n ++ [32] ++ verT o.v ++ [10])) := by
  refine ⟨fun i => setT c (s.take i), ⟨by show setT c s = setT c (s.take s.length); rw [List.take_length], rfl⟩, fun i k h => ?_⟩
  have hm := hk.2 k (List.mem_of_getElem? h)
  obtain ⟨k0, hat, hn, hv, -, -⟩ := pk_facts hc hm
  have h1 := setT_len hc (s.take i) fun k hk' => hk.2 k (List.mem_of_mem_take hk')
  have h2 := hk.len
  have h3 := (cat_ok hc).1
  rw [List.length_take] at h1
  exact ⟨pk c k, ⟨k0, hat⟩, by dsimp only; omega, hn, hv, verT_len hv, setT_at h⟩
theorem c_setText (c : List Pck) (s : List Int) (hc : catF c = 0) (hk : Told c s) : PCtr PP n_impl_setText [encP c, .sl false 1 (s.map i64)] (str (setT c s)) := by
  obtain ⟨Ω, hΩ⟩ : ∃ Ω, Ω = std := ⟨_, rfl⟩
  obtain ⟨G, ⟨hG1, hG0⟩, hGs⟩ := txt_facts c s hc hk
  rw [hG1]
  have hsl := hk.len
  have hcl := (cat_ok hc).1
  have ht := fun v h => c_text v h
  have hj : ∀ a b : List UInt8, a.length + b.length ≤ 1000 → PCtr PP n_impl_joined [.sl false 1 [str a, str b]] (str (a ++ [32] ++ b)) := fun a b h => by
    have := c_joined [a, b] (by show 2 ≤ _; omega) (by rw [join2]; simp; omega)
    rw [join2] at this
    exact this
  obtain ⟨ss, hss⟩ : ∃ ss, ss = s.map i64 := ⟨_, rfl⟩
  have hlen : ss.length = s.length := by rw [hss, List.length_map]
  rw [← hss]
  unfold encP
  generalize c.map (Pck.enc false) = cs at *
  generalize verT = V at *
  have htab := tab
  have hmo := hmo
  refine PCtr.walk tab hΩ fn_impl_setText rfl ?_
  generalize PP = P at *
  cbv
  refine loopX htab hΩ (fun i : Nat => ⟨[(0, .sl false 8 cs), (5, str (G i)), (8, .sl false 1 ss), (9, i64 (Ω.int (Ω.len ss))), (10, i64 (Ω.int i))], 32, []⟩) (fun i => i ≤ s.length) (fun i => s.length - i) 0
    (Nat.zero_le _) (Sbs.mk rfl rfl ⟨rfl, congrArg str hG0, rfl, rfl, zeroI hΩ, trivial⟩) ?_
  intro i hi
  cbv
  refine br (fun h => ?_) (fun h => ?_) <;> cbv
  · replace h := ltI hΩ h
    obtain ⟨k, hki⟩ := at_of (cs := s) (by omega : i < s.length)
    obtain ⟨o, ⟨k0, hat⟩, g1, g2, g3, g5, g4⟩ := hGs i k hki
    have ht := ht o.v g3
    have hj := hj o.n (V o.v) (by omega)
    obtain ⟨ps, dd, bb, hen, -, -, -⟩ := enc_raw o
    rw [hen] at hat
    generalize V o.v = w at *
    generalize o.n = nm at *
    obtain ⟨j, hjj⟩ : ∃ j, j = nm ++ [32] ++ w := ⟨_, rfl⟩
    have hjl : j.length ≤ 24 := by rw [hjj]; simp; omega
    rw [← hjj] at hj g4
    refine ⟨⟨nnI hΩ⟩, _, rdI hΩ hss hki, ?_⟩
    cbv
    refine ⟨VC_pl htab hΩ hmo (.qs [0, 1, 2, 3, 4, 5, 6, 7, 8, 9, 10] (.s 11 (.s 12 (.s 13 (.s 14 (.s 15 (.q 16 .fin))))))) (by kernel_rfl) ?_⟩
    cbv
    refine ⟨⟨k0⟩, _, hat, ?_⟩
    cbv
    refine ⟨⟨k0⟩, _, hat, ?_⟩
    cbv
    refine call_pure hΩ 4 ht rfl (fits _) rfl rfl ?_
    cbv
    refine call_pure hΩ 4 hj rfl (fits _) rfl rfl ?_
    cbv
    refine ⟨⟨obC (by simp; omega)⟩, ⟨obC (by rw [catL hΩ]; simp; omega)⟩, ?_⟩
    cbv
    refine ⟨i + 1, by omega, by omega, (Sbs.cut 0 rfl).trans (Sbs.mk rfl rfl ⟨rfl, congrArg str ?_, rfl, rfl, incI hΩ (by omega), trivial⟩)⟩
    rw [g4]
    subst hΩ
    rfl
  · replace h := geI hΩ h
    have hi : i = s.length := by omega
    subst hi
    exact .same
theorem c_l3Text (c : List Pck) (s : List Int) (hc : catF c = 0) (hk : Told c s) : PCtr PP n_spec_l3Text [encP c, .sl false 1 (s.map i64)] (str (setT c s)) := by
  obtain ⟨Ω, hΩ⟩ : ∃ Ω, Ω = std := ⟨_, rfl⟩
  obtain ⟨G, ⟨hG1, hG0⟩, hGs⟩ := txt_facts c s hc hk
  rw [hG1]
  have hsl := hk.len
  have hcl := (cat_ok hc).1
  have ht := fun v h => c_specFormatVersion v h
  obtain ⟨ss, hss⟩ : ∃ ss, ss = s.map i64 := ⟨_, rfl⟩
  have hlen : ss.length = s.length := by rw [hss, List.length_map]
  rw [← hss]
  unfold encP
  generalize c.map (Pck.enc false) = cs at *
  generalize verT = V at *
  have htab := tab
  have hmo := hmo
  refine PCtr.walk tab hΩ fn_spec_l3Text rfl ?_
  generalize PP = P at *
  cbv
  refine loopX htab hΩ (fun i : Nat => ⟨[(0, .sl false 8 cs), (1, .sl false 1 ss), (5, str (G i)), (6, i64 (Ω.int i))], 36, []⟩) (fun i => i ≤ s.length) (fun i => s.length - i) 0
    (Nat.zero_le _) (Sbs.mk rfl rfl ⟨rfl, rfl, congrArg str hG0, zeroI hΩ, trivial⟩) ?_
  intro i hi
  cbv
  refine br (fun h => ?_) (fun h => ?_) <;> cbv
  · replace h := ltI hΩ h
    obtain ⟨k, hki⟩ := at_of (cs := s) (by omega : i < s.length)
    obtain ⟨o, ⟨k0, hat⟩, g1, g2, g3, g5, g4⟩ := hGs i k hki
    have ht := ht o.v g3
    obtain ⟨ps, dd, bb, hen, -, -, -⟩ := enc_raw o
    rw [hen] at hat
    generalize V o.v = w at *
    generalize o.n = nm at *
    refine ⟨VC_pl htab hΩ hmo (.qs [0, 1, 2, 3, 4, 5, 6, 7, 8, 11, 12, 13, 14, 15, 16, 17, 18] (.two 9 (.two 10 (.s 19 (.s 20 (.s 21 (.q 22 .fin)))) 19 (.s 10 (.s 20 (.s 21 (.q 22 .fin))))) 19 (.s 9 (.s 10 (.s 20 (.s 21 (.q 22 .fin))))))) (by kernel_rfl) ?_⟩
    cbv
    refine ⟨⟨nnI hΩ⟩, _, rdI hΩ hss hki, ?_⟩
    cbv
    refine ⟨⟨k0⟩, _, hat, ?_⟩
    cbv
    refine ⟨⟨nnI hΩ⟩, _, rdI hΩ hss hki, ?_⟩
    cbv
    refine ⟨⟨k0⟩, _, hat, ?_⟩
    cbv
    have e : str (Ω.cat (Ω.cat (Ω.cat (Ω.cat (G i) nm) [32]) w) [10]) = str (G (i + 1)) := by rw [g4]; subst hΩ; exact congrArg str (by show G i ++ nm ++ [32] ++ w ++ [10] = _; simp)
    repeat' (first
      | (refine call_pure hΩ 4 ht rfl (fits _) rfl rfl ?_; cbv)
      | exact ⟨i + 1, by omega, by omega, Sbs.mk rfl rfl ⟨rfl, rfl, e, incI hΩ (by omega), trivial⟩⟩
      | exact ⟨obC (by omega)⟩
      | exact ⟨obC (by (repeat rw [catL hΩ]); simp; omega)⟩
      | (refine And.intro ?_ ?_))
  · replace h := geI hΩ h
    have hi : i = s.length := by omega
    subst hi
    exact .same
end Go.Proofs.YtljjcffnomdhhaaGreatDoor

/- The text of a machine. Definitions and plain theorems. -/
set_option linter.unusedVariables false
set_option linter.unusedSimpArgs false
namespace Go.Proofs.YtljjcffnomdhhaaGreatDoor
open Go Go.Fw
set_option maxRecDepth 100000
theorem itoa_len6 {n : Int} (h0 : 0 ≤ n) (h1 : n ≤ 9999999) : (Lib.itoa n).length ≤ 7 := by
  rw [itoa_dec h0]
  exact decD_len 6 _ (by omega)
end Go.Proofs.YtljjcffnomdhhaaGreatDoor

/- Files laid one after another; how much there is at the most. Definitions and plain theorems. -/
set_option linter.unusedVariables false
set_option linter.unusedSimpArgs false
namespace Go.Proofs.YtljjcffnomdhhaaGreatDoor
open Go Go.Fw
set_option maxRecDepth 100000
/-- Files with another one: in its place. -/
def putF (l : List Fil) (f : Fil) : List Fil := l.take (plcF l f.p) ++ f :: l.drop (plcF l f.p + if hasF l f.p then 1 else 0)
theorem putF_cons (g : Fil) (l : List Fil) (f : Fil) : putF (g :: l) f = if g.p < f.p then g :: putF l f else if g.p = f.p then f :: l else f :: g :: l := by
  unfold putF
  rw [plcF_cons, hasF_cons]
  by_cases h : g.p < f.p
  · rw [if_pos h, if_pos h, if_pos h, Nat.succ_add]; rfl
  · rw [if_neg h, if_neg h, if_neg h]
    by_cases e : g.p = f.p
    · rw [if_pos e, decide_eq_true e]; rfl
    · rw [if_neg e, decide_eq_false e]; rfl
theorem putF_nil (f : Fil) : putF [] f = [f] := rfl
theorem putF_mem : ∀ {l : List Fil} {f h : Fil}, h ∈ putF l f → h = f ∨ h ∈ l
  | [], f, h, hm => by rw [putF_nil] at hm; simp at hm; exact .inl hm
  | g :: l, f, h, hm => by
    rw [putF_cons] at hm
    split at hm
    · rcases List.mem_cons.1 hm with rfl | hm
      · exact .inr (.head _)
      · rcases putF_mem hm with e | e
        · exact .inl e
        · exact .inr (.tail _ e)
    · split at hm
      · rcases List.mem_cons.1 hm with rfl | hm
        · exact .inl rfl
        · exact .inr (.tail _ hm)
      · rcases List.mem_cons.1 hm with rfl | hm
        · exact .inl rfl
        · exact .inr hm
theorem putF_ord : ∀ {l : List Fil} {f : Fil}, ordF l → ordF (putF l f)
  | [], f, _ => by rw [putF_nil]; exact List.pairwise_singleton _ _
  | g :: l, f, h => by
    obtain ⟨h1, h2⟩ := List.pairwise_cons.1 h
    rw [putF_cons]
    split
    · rename_i hp
      refine List.pairwise_cons.2 ⟨fun a ha => ?_, putF_ord h2⟩
      rcases putF_mem ha with rfl | ha
      · exact hp
      · exact h1 a ha
    · rename_i hn
      split
      · rename_i e; exact List.pairwise_cons.2 ⟨fun a ha => e ▸ h1 a ha, h2⟩
      · rename_i e
        have hlt : f.p < g.p := (List.le_iff_lt_or_eq.1 (List.not_lt.1 hn)).resolve_right fun e' => e e'.symm
        refine List.pairwise_cons.2 ⟨fun a ha => ?_, h⟩
        rcases List.mem_cons.1 ha with rfl | ha
        · exact hlt
        · exact List.lt_trans hlt (h1 a ha)
theorem datF_cons (g : Fil) (l : List Fil) (p : List UInt8) : datF (g :: l) p = if g.p < p then datF l p else if g.p = p then g.d else [] := by
  unfold datF
  rw [hasF_cons, plcF_cons]
  by_cases h : g.p < p
  · rw [if_pos h, if_pos h, if_pos h]; rfl
  · rw [if_neg h, if_neg h, if_neg h]
    by_cases e : g.p = p
    · rw [if_pos e, decide_eq_true e]; rfl
    · rw [if_neg e, decide_eq_false e]; rfl
theorem putF_tot : ∀ {l : List Fil} {f : Fil}, totL (putF l f) + (datF l f.p).length = totL l + f.d.length
  | [], f => by rw [putF_nil]; simp [totL, datF, hasF]
  | g :: l, f => by
    have ih := putF_tot (l := l) (f := f)
    rw [putF_cons, datF_cons]
    unfold totL at ih ⊢
    split
    · simp at ih ⊢; omega
    · split
      · simp; omega
      · simp; omega
theorem putF_len (l : List Fil) (f : Fil) : (putF l f).length ≤ l.length + 1 := by
  unfold putF
  rw [List.length_append, List.length_cons, List.length_take, List.length_drop]
  omega
/-- The number of the next one. -/
def nxtG (g : List Int) : Int := g.foldl (fun o n => if o < n + 1 then n + 1 else o) 1
def nxtF (l : List Fil) : Int := nxtG (gensF l)
/-- The files that a batch writes. -/
def wrtF (c : List Pck) (l : List Fil) (s : List Int) : List Fil := ((lackF c l s).map fun k => ⟨pathK (pk c k), bytK (pk c k)⟩) ++ [⟨genB (nxtF l), setT c s⟩, ⟨curP, Lib.itoa (nxtF l)⟩]
def layF (l : List Fil) (fs : List Fil) : List Fil := fs.foldl putF l
/-- The most bytes while files are laid. -/
def mstF : List Fil → Int → List Fil → Int
  | _, m, [] => m
  | l, m, f :: fs => mstF (putF l f) (if m < (totL (putF l f) : Int) then (totL (putF l f) : Int) else m) fs
/-- The most, the last, the code. -/
def pkS (c : List Pck) : List Fil → Int → List (List Int) → Int × Int × Int
  | l, m, [] => (m, (totL l : Int), 0)
  | l, m, s :: ss => if 999999 < nxtF l then (0, 0, 2) else pkS c (layF l (wrtF c l s)) (mstF l m (wrtF c l s)) ss
def pkK (c : List Pck) (x : Dsk) (ss : List (List Int)) : Int × Int × Int :=
  if bthC c x ≠ 0 then (bthC c x, 0, 0) else if 40 < ss.length then (2, 0, 0) else if firstF (setF c) ss ≠ 0 then (firstF (setF c) ss, 0, 0) else
    ((pkS c x.f (totL x.f) ss).2.2, (pkS c x.f (totL x.f) ss).1, (pkS c x.f (totL x.f) ss).2.1)
end Go.Proofs.YtljjcffnomdhhaaGreatDoor

/- The numbers of files in order rise; the next one. Plain theorems. -/
set_option linter.unusedVariables false
set_option linter.unusedSimpArgs false
namespace Go.Proofs.YtljjcffnomdhhaaGreatDoor
open Go Go.Fw
set_option maxRecDepth 100000
theorem numL_lt : ∀ {a b : List UInt8} {n m : Int}, a.length = b.length → n < m → 0 ≤ numL a n → 0 ≤ numL b m → numL a n < numL b m
  | [], [], n, m, _, h, _, _ => h
  | c :: a, d :: b, n, m, hl, h, h1, h2 => by
    unfold numL at h1 h2 ⊢
    split at h1
    · rename_i hc
      split at h2
      · rename_i hd
        rw [if_pos hc, if_pos hd]
        exact numL_lt (by simpa using hl) (by omega) h1 h2
      · omega
    · omega
theorem numL_mono : ∀ {a b : List UInt8} {n : Int}, a.length = b.length → a < b → 0 ≤ numL a n → 0 ≤ numL b n → numL a n < numL b n
  | [], [], n, _, h, _, _ => absurd h (List.lt_irrefl _)
  | c :: a, d :: b, n, hl, h, h1, h2 => by
    unfold numL at h1 h2 ⊢
    split at h1
    · rename_i hc
      split at h2
      · rename_i hd
        rw [if_pos hc, if_pos hd]
        rcases List.cons_lt_cons_iff.1 h with hlt | ⟨rfl, hlt⟩
        · have hlt : c.toNat < d.toNat := hlt
          exact numL_lt (by simpa using hl) (by omega) h1 h2
        · exact numL_mono (by simpa using hl) hlt h1 h2
      · omega
    · omega
theorem app_lt : ∀ {p a b : List UInt8}, p ++ a < p ++ b → a < b
  | [], _, _, h => h
  | c :: p, a, b, h => by
    rcases List.cons_lt_cons_iff.1 h with h | ⟨-, h⟩
    · exact absurd h (UInt8.lt_irrefl _)
    · exact app_lt h
theorem genV_lt {s t : List UInt8} (hs : begB genH s = true) (ht : begB genH t = true) (gs : isG s = true) (gt : isG t = true) (h : s < t) : genV s < genV t := by
  have e1 := beg_split hs
  have e2 := beg_split ht
  unfold isG at gs gt
  simp only [Bool.and_eq_true, decide_eq_true_eq] at gs gt
  have l1 : (s.drop 4).length = 6 := by rw [List.length_drop]; omega
  have l2 : (t.drop 4).length = 6 := by rw [List.length_drop]; omega
  rw [e1, e2] at h
  have h := app_lt h
  have f1 : genV s = numL (s.drop 4) 0 := by unfold genV numM; rw [if_neg (by omega)]
  have f2 : genV t = numL (t.drop 4) 0 := by unfold genV numM; rw [if_neg (by omega)]
  rw [f1, f2]
  rw [f1] at gs
  rw [f2] at gt
  exact numL_mono (by omega) h (by omega) (by omega)
theorem gensF_up {l : List Fil} (h : ordF l) : (gensF l).Pairwise (· < ·) := by
  unfold gensF
  rw [List.pairwise_map]
  have h1 : ((pathsF l genH).filter isG).Pairwise (· < ·) := by
    unfold pathsF
    refine List.Pairwise.filter _ (List.Pairwise.filter _ ?_)
    rw [List.pairwise_map]
    exact h
  have hall : ∀ s ∈ (pathsF l genH).filter isG, begB genH s = true ∧ isG s = true := fun s hs => by
    obtain ⟨h1, h2⟩ := List.mem_filter.1 hs
    exact ⟨(pathsF_mem h1).1, h2⟩
  exact List.Pairwise.imp_of_mem (fun {a b} ha hb hab => genV_lt (hall a ha).1 (hall b hb).1 (hall a ha).2 (hall b hb).2 hab) h1
/-- The last of what rises is the greatest. -/
theorem nxtG_app (g : List Int) (n : Int) : nxtG (g ++ [n]) = if nxtG g < n + 1 then n + 1 else nxtG g := by
  unfold nxtG
  rw [List.foldl_append]; rfl
theorem nxtG_le : ∀ {g : List Int} {o m : Int}, o ≤ m → (∀ n ∈ g, n + 1 ≤ m) → g.foldl (fun o n => if o < n + 1 then n + 1 else o) o ≤ m
  | [], o, m, h, _ => h
  | n :: g, o, m, h, hg => by
    rw [List.foldl_cons]
    refine nxtG_le ?_ fun k hk => hg k (.tail _ hk)
    have := hg n (.head _)
    split <;> omega
theorem nxtG_last {g : List Int} {n : Int} (h : (g ++ [n]).Pairwise (· < ·)) (h1 : 1 ≤ n) : nxtG (g ++ [n]) = n + 1 := by
  have hb : ∀ m ∈ g, m < n := fun m hm => (List.pairwise_append.1 h).2.2 m hm n (by simp)
  have := nxtG_le (g := g) (o := 1) (m := n) h1 fun m hm => by have := hb m hm; omega
  rw [nxtG_app]
  unfold nxtG
  rw [if_pos (by omega)]
theorem nxtF_in (l : List Fil) : 1 ≤ nxtF l ∧ nxtF l ≤ 1000000 := by
  have h2 : nxtF l ≤ 1000000 := nxtG_le (by omega) fun n hn => by have := gensF_ge hn; omega
  refine ⟨?_, h2⟩
  have : ∀ (g : List Int) (o : Int), 1 ≤ o → 1 ≤ g.foldl (fun o n => if o < n + 1 then n + 1 else o) o := fun g => by
    induction g with
    | nil => exact fun o h => h
    | cons n g ih => intro o h; rw [List.foldl_cons]; refine ih _ ?_; split <;> omega
  exact this _ 1 (by omega)
end Go.Proofs.YtljjcffnomdhhaaGreatDoor

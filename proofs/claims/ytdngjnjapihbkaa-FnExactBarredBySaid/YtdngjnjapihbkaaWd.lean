/- The program's data as plain data, and how memory tells of them. Definitions. -/
import Derived.Test.YtdngjnjapihbkaaFns
set_option linter.unusedVariables false
namespace Go.Proofs.Ytdngjnjapihbkaa
open Go Go.Fw
def i64 (x : Int) : A := .sc (.int .i64 x)
def boo (x : Bool) : A := .sc (.bool x)
def str (x : List UInt8) : A := .sc (.string (mkS x))
structure Ver where
  a : Int
  b : Int
  c : Int
  deriving DecidableEq
def Ver.cells (v : Ver) : List A := [i64 v.a, i64 v.b, i64 v.c]
def Ver.enc (v : Ver) : A := .agg v.cells
def Ver.zero : Ver := ⟨0, 0, 0⟩
structure Chg where
  k : Int
  n : List UInt8
  o : Ver
  w : Ver
  deriving DecidableEq
def Chg.cells (v : Chg) : List A := [i64 v.k, str v.n, i64 v.o.a, i64 v.o.b, i64 v.o.c, i64 v.w.a, i64 v.w.b, i64 v.w.c]
def Chg.enc (v : Chg) : A := .agg v.cells
def Chg.zero : Chg := ⟨0, [], Ver.zero, Ver.zero⟩

/-! Sizes. -/
def szStr (n : List UInt8) (l : Int) : Int := if IntKind.i64.wrap (l - n.length) < 0 then -1 else IntKind.i64.wrap (l - n.length)
def szLoop {α : Type} (f : α → Int → Int) : List α → Int → Int
  | [], l => l
  | c :: cs, l => if f c l < 0 then -1 else szLoop f cs (f c l)
def szS {α : Type} (f : α → Int → Int) (cs : List α) (l : Int) : Int := if l - cs.length < 0 then -1 else szLoop f cs (l - cs.length)
theorem szw {n : Nat} {l : Int} (h0 : 0 ≤ l) (h1 : l ≤ 1048576) (hm : n ≤ maxLen) : IntKind.i64.wrap (l - n) = l - n := by
  simp only [maxLen] at hm
  exact wrap64 (by omega) (by omega)
theorem inc64 {n : Nat} (h : n < 9223372036854775807) : IntKind.i64.wrap ((n : Int) + 1) = ((n + 1 : Nat) : Int) := by rw [wrap64 (by omega) (by omega)]; omega
theorem szLoop_at {α : Type} (f : α → Int → Int) {cs : List α} {i : Nat} {c : α} (h : cs[i]? = some c) (l : Int) : szLoop f (cs.drop i) l = if f c l < 0 then -1 else szLoop f (cs.drop (i + 1)) (f c l) := by
  obtain ⟨h1, h2⟩ := List.getElem?_eq_some_iff.1 h
  rw [List.drop_eq_getElem_cons h1, h2, szLoop]

/-! Steps that all loops have. -/
section
variable {Ω : Opq}
theorem ltI (hΩ : Ω = std) {i : Nat} {xs : List A} (h : Ω.cmp .lss (Ω.int i) (Ω.int (Ω.len xs)) = true) : i < xs.length := by
  subst hΩ
  have h : (i : Int) < xs.length := lt_t h
  omega
theorem geI (hΩ : Ω = std) {i : Nat} {xs : List A} (h : Ω.cmp .lss (Ω.int i) (Ω.int (Ω.len xs)) = false) : xs.length ≤ i := by
  subst hΩ
  have h : (xs.length : Int) ≤ i := lt_f h
  omega
theorem ltN (hΩ : Ω = std) {i n : Nat} (h : Ω.cmp .lss (Ω.int i) (Ω.int n) = true) : i < n := by
  subst hΩ
  have h : (i : Int) < n := lt_t h
  omega
theorem geN (hΩ : Ω = std) {i n : Nat} (h : Ω.cmp .lss (Ω.int i) (Ω.int n) = false) : n ≤ i := by
  subst hΩ
  have h : (n : Int) ≤ i := lt_f h
  omega
theorem nnI (hΩ : Ω = std) {i : Nat} : 0 ≤ Ω.int i := by subst hΩ; exact Int.natCast_nonneg i
theorem rdI (hΩ : Ω = std) {α : Type} {f : α → A} {cs : List α} {xs : List A} {i : Nat} {c : α} (hxs : xs = cs.map f) (hc : cs[i]? = some c) : xs[(Ω.int i).toNat]? = some (f c) := by
  subst hΩ
  show xs[i]? = _
  rw [hxs, List.getElem?_map, hc]; rfl
theorem incI (hΩ : Ω = std) {i : Nat} (h : i < 9223372036854775807) : i64 (Ω.ar .add .i64 (Ω.int i) 1) = i64 (Ω.int (i + 1)) := by subst hΩ; exact congrArg i64 (inc64 h)
theorem zeroI (hΩ : Ω = std) : i64 0 = i64 (Ω.int 0) := by subst hΩ; rfl
theorem notT (hΩ : Ω = std) (h : Ω.not true = true) : False := by subst hΩ; cases (show (!true) = true from h)
theorem notF (hΩ : Ω = std) (h : Ω.not false = false) : False := by subst hΩ; cases (show (!false) = false from h)
theorem ne_self (hΩ : Ω = std) {x : Int} (h : Ω.cmp .neq x x = true) : False := by subst hΩ; exact ne_t h rfl
theorem sne_self (hΩ : Ω = std) {x : List UInt8} (h : Ω.cmpS .neq x x = true) : False := by subst hΩ; exact sne_t h rfl
end
theorem okAll {xs : List A} (h : (flat xs).all okCell = true) : ∀ c ∈ flat xs, okCell c = true := List.all_eq_true.1 h
/-- Where a loop downwards stands. -/
theorem downs (n : Nat) (hn : n ≤ 4611686018427387904) : ∃ pos : Nat → Int, IntKind.i64.wrap ((n : Int) - 1) = pos 0 ∧ (∀ k, k < n → 0 ≤ pos k ∧ (pos k).toNat = n - 1 - k) ∧ (∀ k, 0 ≤ pos k → k < n) ∧
    ∀ k, k < n → IntKind.i64.wrap (pos k - 1) = pos (k + 1) := by
  refine ⟨fun k => (n : Int) - 1 - k, ?_, fun k hk => ?_, fun k hk => ?_, fun k hk => ?_⟩
  · simp only; rw [wrap64 (by omega) (by omega)]; omega
  · simp only; omega
  · simp only at hk; omega
  · simp only; rw [wrap64 (by omega) (by omega)]; omega
theorem eqI_t {Ω : Opq} (hΩ : Ω = std) {x y : Int} (h : Ω.cmp .eql x y = true) : x = y := by subst hΩ; exact eq_t h
theorem eqI_f {Ω : Opq} (hΩ : Ω = std) {x y : Int} (h : Ω.cmp .eql x y = false) : x ≠ y := by subst hΩ; exact eq_f h
theorem neI_t {Ω : Opq} (hΩ : Ω = std) {x y : Int} (h : Ω.cmp .neq x y = true) : x ≠ y := by subst hΩ; exact ne_t h
theorem neI_f {Ω : Opq} (hΩ : Ω = std) {x y : Int} (h : Ω.cmp .neq x y = false) : x = y := by subst hΩ; exact ne_f h
theorem geI_t {Ω : Opq} (hΩ : Ω = std) {x y : Int} (h : Ω.cmp .geq x y = true) : y ≤ x := by subst hΩ; exact ge_t h
theorem geI_f {Ω : Opq} (hΩ : Ω = std) {x y : Int} (h : Ω.cmp .geq x y = false) : x < y := by subst hΩ; exact ge_f h
theorem leI_t {Ω : Opq} (hΩ : Ω = std) {x y : Int} (h : Ω.cmp .leq x y = true) : x ≤ y := by subst hΩ; exact le_t h
theorem leI_f {Ω : Opq} (hΩ : Ω = std) {x y : Int} (h : Ω.cmp .leq x y = false) : y < x := by subst hΩ; exact le_f h
theorem ltI_t {Ω : Opq} (hΩ : Ω = std) {x y : Int} (h : Ω.cmp .lss x y = true) : x < y := by subst hΩ; exact lt_t h
theorem ltI_f {Ω : Opq} (hΩ : Ω = std) {x y : Int} (h : Ω.cmp .lss x y = false) : y ≤ x := by subst hΩ; exact lt_f h
theorem gtI_t {Ω : Opq} (hΩ : Ω = std) {x y : Int} (h : Ω.cmp .gtr x y = true) : y < x := by subst hΩ; exact gt_t h
theorem gtI_f {Ω : Opq} (hΩ : Ω = std) {x y : Int} (h : Ω.cmp .gtr x y = false) : x ≤ y := by subst hΩ; exact gt_f h
/-- One more, in 64 bits. -/
def inc (x : Int) : Int := IntKind.i64.wrap (x + 1)
theorem inc_eq {x : Int} (h0 : 0 ≤ x) (h1 : x ≤ 4611686018427387904) : inc x = x + 1 := wrap64 (by omega) (by omega)
theorem ixI {Ω : Opq} (hΩ : Ω = std) {i n : Nat} (h : i < n) : 0 ≤ Ω.int i ∧ Ω.int i < (n : Int) := by subst hΩ; exact ⟨Int.natCast_nonneg i, Int.ofNat_lt.2 h⟩
theorem atI {Ω : Opq} (hΩ : Ω = std) {i : Nat} {xs : List A} {z : A} (h : xs[i]? = some z) : xs[Ω.plus 0 (Ω.nat (Ω.int i))]? = some z := by
  subst hΩ; show xs[0 + i]? = _; rw [Nat.zero_add]; exact h
theorem setI {Ω : Opq} (hΩ : Ω = std) {i : Nat} {xs : List A} {z : A} (h : i < xs.length) : (Ω.set xs (Ω.plus 0 (Ω.nat (Ω.int i))) z)[Ω.plus 0 (Ω.nat (Ω.int i))]? = some z := by
  subst hΩ; show (xs.set (0 + i) z)[0 + i]? = _; rw [Nat.zero_add]; simp [h]
theorem setI_length {Ω : Opq} (hΩ : Ω = std) {i : Nat} {xs : List A} {z : A} : (Ω.set xs i z).length = xs.length := by subst hΩ; exact List.length_set
theorem setI_lt {Ω : Opq} (hΩ : Ω = std) {i j : Nat} {xs : List A} {z : A} (h : i < xs.length) : i < (Ω.set xs j z).length := by rw [setI_length hΩ]; exact h
theorem at_of {α : Type} {cs : List α} {i : Nat} (h : i < cs.length) : ∃ c, cs[i]? = some c := ⟨_, List.getElem?_eq_getElem h⟩
theorem hmo : PP.follows .mixedOrders = true := by kernel_rfl
end Go.Proofs.Ytdngjnjapihbkaa

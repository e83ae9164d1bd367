/- Packages, terms, and what the program's functions say of them, as plain functions. Definitions and plain theorems. -/
import Derived.Test.YtdngjnjapihbkaaWd
set_option linter.unusedVariables false
set_option linter.unusedSimpArgs false
namespace Go.Proofs.Ytdngjnjapihbkaa
open Go Go.Fw
structure Trm where
  n : List UInt8
  l : Ver
  h : Ver
  deriving DecidableEq
def Trm.cells (t : Trm) : List A := [str t.n, i64 t.l.a, i64 t.l.b, i64 t.l.c, i64 t.h.a, i64 t.h.b, i64 t.h.c]
def Trm.enc (t : Trm) : A := .agg t.cells
def Trm.zero : Trm := ⟨[], Ver.zero, Ver.zero⟩
structure Pck where
  n : List UInt8
  v : Ver
  s : Int
  p : List (List UInt8)
  d : List (List Trm)
  b : List Trm
  deriving DecidableEq
def encTs (o : Bool) (l : List Trm) : A := .sl o 7 (l.map Trm.enc)
def Pck.cells (o : Bool) (p : Pck) : List A := [str p.n, i64 p.v.a, i64 p.v.b, i64 p.v.c, i64 p.s, .sl o 1 (p.p.map str), .sl o 1 (p.d.map (encTs o)), .sl o 7 (p.b.map Trm.enc)]
def Pck.enc (o : Bool) (p : Pck) : A := .agg (p.cells o)

/-! What the program's functions say. -/
def letterB (c : UInt8) : Bool := decide (97 ≤ (c.toNat : Int)) && decide ((c.toNat : Int) ≤ 122)
def digitB (c : UInt8) : Bool := decide (48 ≤ (c.toNat : Int)) && decide ((c.toNat : Int) ≤ 57)
def nameB (c : UInt8) : Bool := letterB c || (digitB c || decide ((c.toNat : Int) = 95))
def allCode {α : Type} (p : α → Bool) (k : Int) : List α → Int
  | [] => 0
  | x :: xs => if p x then allCode p k xs else k
def nameF (n : List UInt8) : Int := if (n.length : Int) < 1 then 5 else if (12 : Int) < n.length then 5 else if letterB (n.headD 0) then allCode nameB 5 n else 5
def inB (v l u : Int) : Bool := decide (l ≤ v) && decide (v ≤ u)
def verF (v : Ver) : Int := if inB v.a 0 999 && (inB v.b 0 999 && inB v.c 0 999) then 0 else 3
def sgn (a b : Int) : Int := if a < b then -1 else if b < a then 1 else 0
def cmpV (a b : Ver) : Int := if sgn a.a b.a ≠ 0 then sgn a.a b.a else if sgn a.b b.b ≠ 0 then sgn a.b b.b else sgn a.c b.c
def topV : Ver := ⟨1000, 0, 0⟩
def trmF (t : Trm) : Int :=
  if nameF t.n ≠ 0 then nameF t.n else if verF t.l ≠ 0 then verF t.l else if t.h ≠ topV ∧ verF t.h ≠ 0 then 3 else if 0 ≤ cmpV t.l t.h then 1 else 0
def hasB (t : Trm) (n : List UInt8) (v : Ver) : Bool := (t.n == n) && (decide (cmpV t.l v ≤ 0) && decide (cmpV v t.h < 0))
/-- The first fault of all. -/
def firstF {α : Type} (f : α → Int) : List α → Int
  | [] => 0
  | x :: xs => if f x ≠ 0 then f x else firstF f xs
def inTop (n : List UInt8) : Trm := ⟨n, Ver.zero, topV⟩
theorem sgn_zero {a b : Int} : sgn a b = 0 ↔ a = b := by
  unfold sgn
  split
  · omega
  · split <;> omega
theorem cmpV_zero {a b : Ver} : cmpV a b = 0 ↔ a = b := by
  obtain ⟨x, y, z⟩ := a
  obtain ⟨x', y', z'⟩ := b
  have h1 := @sgn_zero x x'
  have h2 := @sgn_zero y y'
  have h3 := @sgn_zero z z'
  rw [Ver.mk.injEq, ← h1, ← h2, ← h3]
  unfold cmpV
  dsimp only
  generalize sgn x x' = p
  generalize sgn y y' = q
  generalize sgn z z' = r
  repeat' split
  all_goals omega
theorem sgn_swap (a b : Int) : sgn a b = - sgn b a := by
  unfold sgn
  repeat' split
  all_goals omega
theorem cmpV_swap (a b : Ver) : cmpV a b = - cmpV b a := by
  unfold cmpV
  rw [sgn_swap a.a b.a, sgn_swap a.b b.b, sgn_swap a.c b.c]
  generalize sgn b.a a.a = p
  generalize sgn b.b a.b = q
  generalize sgn b.c a.c = r
  repeat' split
  all_goals omega
theorem firstF_at {α : Type} (f : α → Int) {cs : List α} {i : Nat} {c : α} (h : cs[i]? = some c) : firstF f (cs.drop i) = if f c ≠ 0 then f c else firstF f (cs.drop (i + 1)) := by
  obtain ⟨h1, h2⟩ := List.getElem?_eq_some_iff.1 h
  rw [List.drop_eq_getElem_cons h1, h2, firstF]
theorem allCode_at {α : Type} (p : α → Bool) (k : Int) {cs : List α} {i : Nat} {c : α} (h : cs[i]? = some c) : allCode p k (cs.drop i) = if p c then allCode p k (cs.drop (i + 1)) else k := by
  obtain ⟨h1, h2⟩ := List.getElem?_eq_some_iff.1 h
  rw [List.drop_eq_getElem_cons h1, h2, allCode]
theorem any_at {α : Type} (p : α → Bool) {cs : List α} {i : Nat} {c : α} (h : cs[i]? = some c) : (cs.drop i).any p = (p c || (cs.drop (i + 1)).any p) := by
  obtain ⟨h1, h2⟩ := List.getElem?_eq_some_iff.1 h
  rw [List.drop_eq_getElem_cons h1, h2, List.any_cons]
@[simp] theorem std_cmp (op : BinOp) (x y : Int) : std.cmp op x y = cmpIS op x y := rfl
@[simp] theorem std_cmpS (op : BinOp) (x y : List UInt8) : std.cmpS op x y = cmpSS op x y := rfl
@[simp] theorem std_not (x : Bool) : std.not x = !x := rfl
@[simp] theorem std_ite (b x y : Bool) : std.ite b x y = if b then x else y := rfl
@[simp] theorem std_ar (op : BinOp) (k : IntKind) (x y : Int) : std.ar op k x y = arS op k x y := rfl
@[simp] theorem std_int (n : Nat) : std.int n = (n : Int) := rfl
@[simp] theorem std_len (n : List A) : std.len n = n.length := rfl
@[simp] theorem std_lenS (n : List UInt8) : std.lenS n = n.length := rfl
@[simp] theorem std_u8 (n : UInt8) : std.u8 n = (n.toNat : Int) := rfl
theorem not_not' {Ω : Opq} (hΩ : Ω = std) (b : Bool) : Ω.not (Ω.not b) = b := by subst hΩ; simp
theorem notT' {Ω : Opq} (hΩ : Ω = std) {b : Bool} (h : Ω.not b = true) : b = false := by subst hΩ; simpa using h
theorem notF' {Ω : Opq} (hΩ : Ω = std) {b : Bool} (h : Ω.not b = false) : b = true := by subst hΩ; simpa using h
end Go.Proofs.Ytdngjnjapihbkaa

/- The functions: their numbers, bodies, temporaries, results. Plain theorems, no condition. -/
import Derived.Test.YtfmcncflooechaaDoorC2
import Derived.Laws.StructEq
import Derived.OrdersHeld
import Derived.Shelf.Strconv.Itoa4
import Derived.Shelf.Strings.OnBuilder
import Derived.Ground.NamesProg
import Derived.Deep.Slices
import Derived.ChangeStays
import Derived.OpenShut
import Derived.WalkKit
import Derived.ProofKit
namespace Go.Proofs.YtfmcncflooechaaDoor
open Go.Fw
noncomputable abbrev PP : Program := Tryd.prog
theorem tab : TabOK PP T := T_ok
abbrev n_laws_FnExactFormatChanges : Nat := 3
theorem fn_laws_FnExactFormatChanges : FnAt PP 3 (Tryd.f3.body.getD .skip) 27 [.tmp 2] := FnAt.of (fn := Tryd.f3) (by kernel_rfl) (by kernel_rfl) (by kernel_rfl) (by kernel_rfl) (by kernel_rfl) (by decide)
abbrev n_laws_szChangeS : Nat := 5
theorem fn_laws_szChangeS : FnAt PP 5 (Tryd.f5.body.getD .skip) 27 [.tmp 4] := FnAt.of (fn := Tryd.f5) (by kernel_rfl) (by kernel_rfl) (by kernel_rfl) (by kernel_rfl) (by kernel_rfl) (by decide)
abbrev n_spec_FormatChanges : Nat := 6
theorem fn_spec_FormatChanges : FnAt PP 6 (Tryd.f6.body.getD .skip) 23 [.tmp 2] := FnAt.of (fn := Tryd.f6) (by kernel_rfl) (by kernel_rfl) (by kernel_rfl) (by kernel_rfl) (by kernel_rfl) (by decide)
abbrev n_laws_toChangeS : Nat := 7
theorem fn_laws_toChangeS : FnAt PP 7 (Tryd.f7.body.getD .skip) 23 [.tmp 2] := FnAt.of (fn := Tryd.f7) (by kernel_rfl) (by kernel_rfl) (by kernel_rfl) (by kernel_rfl) (by kernel_rfl) (by decide)
abbrev n_impl_FormatChanges : Nat := 8
theorem fn_impl_FormatChanges : FnAt PP 8 (Tryd.f8.body.getD .skip) 50 [.tmp 2] := FnAt.of (fn := Tryd.f8) (by kernel_rfl) (by kernel_rfl) (by kernel_rfl) (by kernel_rfl) (by kernel_rfl) (by decide)
abbrev n_laws_eqChangeS : Nat := 9
theorem fn_laws_eqChangeS : FnAt PP 9 (Tryd.f9.body.getD .skip) 27 [.tmp 4] := FnAt.of (fn := Tryd.f9) (by kernel_rfl) (by kernel_rfl) (by kernel_rfl) (by kernel_rfl) (by kernel_rfl) (by decide)
abbrev n_laws_szChange : Nat := 15
theorem fn_laws_szChange : FnAt PP 15 (Tryd.f15.body.getD .skip) 13 [.tmp 4] := FnAt.of (fn := Tryd.f15) (by kernel_rfl) (by kernel_rfl) (by kernel_rfl) (by kernel_rfl) (by kernel_rfl) (by decide)
abbrev n_spec_l15Line : Nat := 16
theorem fn_spec_l15Line : FnAt PP 16 (Tryd.f16.body.getD .skip) 69 [.tmp 2] := FnAt.of (fn := Tryd.f16) (by kernel_rfl) (by kernel_rfl) (by kernel_rfl) (by kernel_rfl) (by kernel_rfl) (by decide)
abbrev n_laws_toChange : Nat := 17
theorem fn_laws_toChange : FnAt PP 17 (Tryd.f17.body.getD .skip) 19 [.cell 2 43] := FnAt.of (fn := Tryd.f17) (by kernel_rfl) (by kernel_rfl) (by kernel_rfl) (by kernel_rfl) (by kernel_rfl) (by decide)
abbrev n_impl_isTold : Nat := 18
theorem fn_impl_isTold : FnAt PP 18 (Tryd.f18.body.getD .skip) 41 [.tmp 2] := FnAt.of (fn := Tryd.f18) (by kernel_rfl) (by kernel_rfl) (by kernel_rfl) (by kernel_rfl) (by kernel_rfl) (by decide)
abbrev n_impl_Version_text : Nat := 19
theorem fn_impl_Version_text : FnAt PP 19 (Tryd.f19.body.getD .skip) 16 [.tmp 2] := FnAt.of (fn := Tryd.f19) (by kernel_rfl) (by kernel_rfl) (by kernel_rfl) (by kernel_rfl) (by kernel_rfl) (by decide)
abbrev n_impl_joined : Nat := 20
theorem fn_impl_joined : FnAt PP 20 (Tryd.f20.body.getD .skip) 5 [.tmp 2] := FnAt.of (fn := Tryd.f20) (by kernel_rfl) (by kernel_rfl) (by kernel_rfl) (by kernel_rfl) (by kernel_rfl) (by decide)
abbrev n_laws_eqChange : Nat := 21
theorem fn_laws_eqChange : FnAt PP 21 (Tryd.f21.body.getD .skip) 27 [.tmp 4] := FnAt.of (fn := Tryd.f21) (by kernel_rfl) (by kernel_rfl) (by kernel_rfl) (by kernel_rfl) (by kernel_rfl) (by decide)
abbrev n_spec_NameFault : Nat := 30
theorem fn_spec_NameFault : FnAt PP 30 (Tryd.f30.body.getD .skip) 29 [.tmp 2] := FnAt.of (fn := Tryd.f30) (by kernel_rfl) (by kernel_rfl) (by kernel_rfl) (by kernel_rfl) (by kernel_rfl) (by decide)
abbrev n_spec_VersionFault : Nat := 31
theorem fn_spec_VersionFault : FnAt PP 31 (Tryd.f31.body.getD .skip) 19 [.tmp 2] := FnAt.of (fn := Tryd.f31) (by kernel_rfl) (by kernel_rfl) (by kernel_rfl) (by kernel_rfl) (by kernel_rfl) (by decide)
abbrev n_spec_FormatVersion : Nat := 32
theorem fn_spec_FormatVersion : FnAt PP 32 (Tryd.f32.body.getD .skip) 19 [.tmp 2] := FnAt.of (fn := Tryd.f32) (by kernel_rfl) (by kernel_rfl) (by kernel_rfl) (by kernel_rfl) (by kernel_rfl) (by decide)
abbrev n_laws_toVersion : Nat := 33
theorem fn_laws_toVersion : FnAt PP 33 (Tryd.f33.body.getD .skip) 14 [.cell 2 41] := FnAt.of (fn := Tryd.f33) (by kernel_rfl) (by kernel_rfl) (by kernel_rfl) (by kernel_rfl) (by kernel_rfl) (by decide)
abbrev n_impl_NameFault : Nat := 34
theorem fn_impl_NameFault : FnAt PP 34 (Tryd.f34.body.getD .skip) 33 [.tmp 2] := FnAt.of (fn := Tryd.f34) (by kernel_rfl) (by kernel_rfl) (by kernel_rfl) (by kernel_rfl) (by kernel_rfl) (by decide)
abbrev n_impl_VersionFault : Nat := 35
theorem fn_impl_VersionFault : FnAt PP 35 (Tryd.f35.body.getD .skip) 19 [.tmp 2] := FnAt.of (fn := Tryd.f35) (by kernel_rfl) (by kernel_rfl) (by kernel_rfl) (by kernel_rfl) (by kernel_rfl) (by decide)
abbrev n_impl_dec : Nat := 36
theorem fn_impl_dec : FnAt PP 36 (Tryd.f36.body.getD .skip) 5 [.tmp 2] := FnAt.of (fn := Tryd.f36) (by kernel_rfl) (by kernel_rfl) (by kernel_rfl) (by kernel_rfl) (by kernel_rfl) (by decide)
abbrev n_strings_Join : Nat := 37
theorem fn_strings_Join : FnAt PP 37 (Tryd.f37.body.getD .skip) 75 [.tmp 4] := FnAt.of (fn := Tryd.f37) (by kernel_rfl) (by kernel_rfl) (by kernel_rfl) (by kernel_rfl) (by kernel_rfl) (by decide)
abbrev n_laws_eqVersion : Nat := 38
theorem fn_laws_eqVersion : FnAt PP 38 (Tryd.f38.body.getD .skip) 20 [.tmp 4] := FnAt.of (fn := Tryd.f38) (by kernel_rfl) (by kernel_rfl) (by kernel_rfl) (by kernel_rfl) (by kernel_rfl) (by decide)
abbrev n_spec_l1Letter : Nat := 46
theorem fn_spec_l1Letter : FnAt PP 46 (Tryd.f46.body.getD .skip) 9 [.tmp 2] := FnAt.of (fn := Tryd.f46) (by kernel_rfl) (by kernel_rfl) (by kernel_rfl) (by kernel_rfl) (by kernel_rfl) (by decide)
abbrev n_spec_l1Name : Nat := 47
theorem fn_spec_l1Name : FnAt PP 47 (Tryd.f47.body.getD .skip) 13 [.tmp 2] := FnAt.of (fn := Tryd.f47) (by kernel_rfl) (by kernel_rfl) (by kernel_rfl) (by kernel_rfl) (by kernel_rfl) (by decide)
abbrev n_spec_l1In : Nat := 48
theorem fn_spec_l1In : FnAt PP 48 (Tryd.f48.body.getD .skip) 15 [.tmp 6] := FnAt.of (fn := Tryd.f48) (by kernel_rfl) (by kernel_rfl) (by kernel_rfl) (by kernel_rfl) (by kernel_rfl) (by decide)
abbrev n_spec_l1Decimal : Nat := 49
theorem fn_spec_l1Decimal : FnAt PP 49 (Tryd.f49.body.getD .skip) 20 [.tmp 2] := FnAt.of (fn := Tryd.f49) (by kernel_rfl) (by kernel_rfl) (by kernel_rfl) (by kernel_rfl) (by kernel_rfl) (by decide)
abbrev n_impl_isNameByte : Nat := 50
theorem fn_impl_isNameByte : FnAt PP 50 (Tryd.f50.body.getD .skip) 21 [.tmp 2] := FnAt.of (fn := Tryd.f50) (by kernel_rfl) (by kernel_rfl) (by kernel_rfl) (by kernel_rfl) (by kernel_rfl) (by decide)
abbrev n_impl_within : Nat := 51
theorem fn_impl_within : FnAt PP 51 (Tryd.f51.body.getD .skip) 15 [.tmp 6] := FnAt.of (fn := Tryd.f51) (by kernel_rfl) (by kernel_rfl) (by kernel_rfl) (by kernel_rfl) (by kernel_rfl) (by decide)
abbrev n_strconv_FormatInt : Nat := 52
theorem fn_strconv_FormatInt : FnAt PP 52 (Tryd.f52.body.getD .skip) 8 [.tmp 4] := FnAt.of (fn := Tryd.f52) (by kernel_rfl) (by kernel_rfl) (by kernel_rfl) (by kernel_rfl) (by kernel_rfl) (by decide)
abbrev n_spec_l1Digit : Nat := 60
theorem fn_spec_l1Digit : FnAt PP 60 (Tryd.f60.body.getD .skip) 9 [.tmp 2] := FnAt.of (fn := Tryd.f60) (by kernel_rfl) (by kernel_rfl) (by kernel_rfl) (by kernel_rfl) (by kernel_rfl) (by decide)
end Go.Proofs.YtfmcncflooechaaDoor

/- The program's data as plain data, and how memory tells of them. Definitions. -/
set_option linter.unusedVariables false
namespace Go.Proofs.YtfmcncflooechaaDoor
open Go Go.Fw
def i64 (x : Int) : A := .sc (.int .i64 x)
def boo (x : Bool) : A := .sc (.bool x)
def str (x : List UInt8) : A := .sc (.string (mkS x))
structure Ver where
  a : Int
  b : Int
  c : Int
  deriving DecidableEq
def Ver.cells (v : Ver) : List A := [i64 v.a, i64 v.b, i64 v.c]
def Ver.enc (v : Ver) : A := .agg v.cells
def Ver.zero : Ver := ⟨0, 0, 0⟩
structure Chg where
  k : Int
  n : List UInt8
  o : Ver
  w : Ver
  deriving DecidableEq
def Chg.cells (v : Chg) : List A := [i64 v.k, str v.n, i64 v.o.a, i64 v.o.b, i64 v.o.c, i64 v.w.a, i64 v.w.b, i64 v.w.c]
def Chg.enc (v : Chg) : A := .agg v.cells
def Chg.zero : Chg := ⟨0, [], Ver.zero, Ver.zero⟩

/-! Sizes. -/
def szStr (n : List UInt8) (l : Int) : Int := if IntKind.i64.wrap (l - n.length) < 0 then -1 else IntKind.i64.wrap (l - n.length)
def szLoop {α : Type} (f : α → Int → Int) : List α → Int → Int
  | [], l => l
  | c :: cs, l => if f c l < 0 then -1 else szLoop f cs (f c l)
def szS {α : Type} (f : α → Int → Int) (cs : List α) (l : Int) : Int := if l - cs.length < 0 then -1 else szLoop f cs (l - cs.length)
theorem szw {n : Nat} {l : Int} (h0 : 0 ≤ l) (h1 : l ≤ 1048576) (hm : n ≤ maxLen) : IntKind.i64.wrap (l - n) = l - n := by
  simp only [maxLen] at hm
  exact wrap64 (by omega) (by omega)
theorem inc64 {n : Nat} (h : n < 9223372036854775807) : IntKind.i64.wrap ((n : Int) + 1) = ((n + 1 : Nat) : Int) := by rw [wrap64 (by omega) (by omega)]; omega
theorem szLoop_at {α : Type} (f : α → Int → Int) {cs : List α} {i : Nat} {c : α} (h : cs[i]? = some c) (l : Int) : szLoop f (cs.drop i) l = if f c l < 0 then -1 else szLoop f (cs.drop (i + 1)) (f c l) := by
  obtain ⟨h1, h2⟩ := List.getElem?_eq_some_iff.1 h
  rw [List.drop_eq_getElem_cons h1, h2, szLoop]

/-! Steps that all loops have. -/
section
variable {Ω : Opq}
theorem ltI (hΩ : Ω = std) {i : Nat} {xs : List A} (h : Ω.cmp .lss (Ω.int i) (Ω.int (Ω.len xs)) = true) : i < xs.length := by
  subst hΩ
  have h : (i : Int) < xs.length := lt_t h
  omega
theorem geI (hΩ : Ω = std) {i : Nat} {xs : List A} (h : Ω.cmp .lss (Ω.int i) (Ω.int (Ω.len xs)) = false) : xs.length ≤ i := by
  subst hΩ
  have h : (xs.length : Int) ≤ i := lt_f h
  omega
theorem nnI (hΩ : Ω = std) {i : Nat} : 0 ≤ Ω.int i := by subst hΩ; exact Int.natCast_nonneg i
theorem rdI (hΩ : Ω = std) {α : Type} {f : α → A} {cs : List α} {xs : List A} {i : Nat} {c : α} (hxs : xs = cs.map f) (hc : cs[i]? = some c) : xs[(Ω.int i).toNat]? = some (f c) := by
  subst hΩ
  show xs[i]? = _
  rw [hxs, List.getElem?_map, hc]; rfl
theorem incI (hΩ : Ω = std) {i : Nat} (h : i < 9223372036854775807) : i64 (Ω.ar .add .i64 (Ω.int i) 1) = i64 (Ω.int (i + 1)) := by subst hΩ; exact congrArg i64 (inc64 h)
theorem zeroI (hΩ : Ω = std) : i64 0 = i64 (Ω.int 0) := by subst hΩ; rfl
theorem notT (hΩ : Ω = std) (h : Ω.not true = true) : False := by subst hΩ; cases (show (!true) = true from h)
theorem ne_self (hΩ : Ω = std) {x : Int} (h : Ω.cmp .neq x x = true) : False := by subst hΩ; exact ne_t h rfl
theorem sne_self (hΩ : Ω = std) {x : List UInt8} (h : Ω.cmpS .neq x x = true) : False := by subst hΩ; exact sne_t h rfl
end
theorem ltI_f {Ω : Opq} (hΩ : Ω = std) {x y : Int} (h : Ω.cmp .lss x y = false) : y ≤ x := by subst hΩ; exact lt_f h
theorem at_of {α : Type} {cs : List α} {i : Nat} (h : i < cs.length) : ∃ c, cs[i]? = some c := ⟨_, List.getElem?_eq_getElem h⟩
theorem hmo : PP.follows .mixedOrders = true := by kernel_rfl
end Go.Proofs.YtfmcncflooechaaDoor

/- Packages, terms, and what the program's functions say of them, as plain functions. Definitions and plain theorems. -/
set_option linter.unusedVariables false
set_option linter.unusedSimpArgs false
namespace Go.Proofs.YtfmcncflooechaaDoor
open Go Go.Fw
structure Trm where
  n : List UInt8
  l : Ver
  h : Ver
  deriving DecidableEq
def Trm.cells (t : Trm) : List A := [str t.n, i64 t.l.a, i64 t.l.b, i64 t.l.c, i64 t.h.a, i64 t.h.b, i64 t.h.c]
def Trm.enc (t : Trm) : A := .agg t.cells
def Trm.zero : Trm := ⟨[], Ver.zero, Ver.zero⟩
structure Pck where
  n : List UInt8
  v : Ver
  s : Int
  p : List (List UInt8)
  d : List (List Trm)
  b : List Trm
  deriving DecidableEq
def encTs (o : Bool) (l : List Trm) : A := .sl o 7 (l.map Trm.enc)
def Pck.cells (o : Bool) (p : Pck) : List A := [str p.n, i64 p.v.a, i64 p.v.b, i64 p.v.c, i64 p.s, .sl o 1 (p.p.map str), .sl o 1 (p.d.map (encTs o)), .sl o 7 (p.b.map Trm.enc)]
def Pck.enc (o : Bool) (p : Pck) : A := .agg (p.cells o)

/-! What the program's functions say. -/
def letterB (c : UInt8) : Bool := decide (97 ≤ (c.toNat : Int)) && decide ((c.toNat : Int) ≤ 122)
def digitB (c : UInt8) : Bool := decide (48 ≤ (c.toNat : Int)) && decide ((c.toNat : Int) ≤ 57)
def nameB (c : UInt8) : Bool := letterB c || (digitB c || decide ((c.toNat : Int) = 95))
def allCode {α : Type} (p : α → Bool) (k : Int) : List α → Int
  | [] => 0
  | x :: xs => if p x then allCode p k xs else k
def nameF (n : List UInt8) : Int := if (n.length : Int) < 1 then 5 else if (12 : Int) < n.length then 5 else if letterB (n.headD 0) then allCode nameB 5 n else 5
def inB (v l u : Int) : Bool := decide (l ≤ v) && decide (v ≤ u)
def verF (v : Ver) : Int := if inB v.a 0 999 && (inB v.b 0 999 && inB v.c 0 999) then 0 else 3
theorem allCode_at {α : Type} (p : α → Bool) (k : Int) {cs : List α} {i : Nat} {c : α} (h : cs[i]? = some c) : allCode p k (cs.drop i) = if p c then allCode p k (cs.drop (i + 1)) else k := by
  obtain ⟨h1, h2⟩ := List.getElem?_eq_some_iff.1 h
  rw [List.drop_eq_getElem_cons h1, h2, allCode]
@[simp] theorem std_cmp (op : BinOp) (x y : Int) : std.cmp op x y = cmpIS op x y := rfl
@[simp] theorem std_cmpS (op : BinOp) (x y : List UInt8) : std.cmpS op x y = cmpSS op x y := rfl
@[simp] theorem std_not (x : Bool) : std.not x = !x := rfl
@[simp] theorem std_ite (b x y : Bool) : std.ite b x y = if b then x else y := rfl
@[simp] theorem std_ar (op : BinOp) (k : IntKind) (x y : Int) : std.ar op k x y = arS op k x y := rfl
@[simp] theorem std_int (n : Nat) : std.int n = (n : Int) := rfl
@[simp] theorem std_len (n : List A) : std.len n = n.length := rfl
@[simp] theorem std_lenS (n : List UInt8) : std.lenS n = n.length := rfl
@[simp] theorem std_u8 (n : UInt8) : std.u8 n = (n.toNat : Int) := rfl
theorem notT' {Ω : Opq} (hΩ : Ω = std) {b : Bool} (h : Ω.not b = true) : b = false := by subst hΩ; simpa using h
theorem notF' {Ω : Opq} (hΩ : Ω = std) {b : Bool} (h : Ω.not b = false) : b = true := by subst hΩ; simpa using h
end Go.Proofs.YtfmcncflooechaaDoor

/- Walks: bytes, names, versions. Plain theorems. -/
set_option linter.unusedVariables false
set_option linter.unusedSimpArgs false
namespace Go.Proofs.YtfmcncflooechaaDoor
open Go Go.Fw
set_option maxRecDepth 100000
def u8 (c : UInt8) : A := .sc (.int .u8 (c.toNat : Int))
theorem c_within (v l u : Int) : PCtr PP n_impl_within [i64 v, i64 l, i64 u] (boo (inB v l u)) := by
  obtain ⟨Ω, hΩ⟩ : ∃ Ω, Ω = std := ⟨_, rfl⟩
  obtain ⟨r, hr⟩ : ∃ r, r = inB v l u := ⟨_, rfl⟩
  rw [← hr]
  unfold inB at hr
  have htab := tab
  have hmo := hmo
  refine PCtr.walk tab hΩ fn_impl_within rfl ?_
  generalize PP = P at *
  cbv
  repeat' (first | (refine br (fun h => ?_) (fun h => ?_) <;> cbv) | (refine ⟨VC_drawn htab hΩ hmo (by kernel_rfl) ?_⟩; cbv))
  all_goals (refine .of (congrArg boo ?_); subst hΩ; subst hr; rw [Bool.eq_iff_iff]; simp at *; try omega)
theorem c_l1In (v l u : Int) : PCtr PP n_spec_l1In [i64 v, i64 l, i64 u] (boo (inB v l u)) := by
  obtain ⟨Ω, hΩ⟩ : ∃ Ω, Ω = std := ⟨_, rfl⟩
  obtain ⟨r, hr⟩ : ∃ r, r = inB v l u := ⟨_, rfl⟩
  rw [← hr]
  unfold inB at hr
  have htab := tab
  have hmo := hmo
  refine PCtr.walk tab hΩ fn_spec_l1In rfl ?_
  generalize PP = P at *
  cbv
  repeat' (first | (refine br (fun h => ?_) (fun h => ?_) <;> cbv) | (refine ⟨VC_drawn htab hΩ hmo (by kernel_rfl) ?_⟩; cbv))
  all_goals (refine .of (congrArg boo ?_); subst hΩ; subst hr; rw [Bool.eq_iff_iff]; simp at *; try omega)
theorem c_isNameByte (c : UInt8) : PCtr PP n_impl_isNameByte [u8 c] (boo (nameB c)) := by
  obtain ⟨Ω, hΩ⟩ : ∃ Ω, Ω = std := ⟨_, rfl⟩
  obtain ⟨r, hr⟩ : ∃ r, r = nameB c := ⟨_, rfl⟩
  rw [← hr]
  unfold nameB letterB digitB at hr
  unfold u8
  generalize (c.toNat : Int) = n at *
  have htab := tab
  have hmo := hmo
  refine PCtr.walk tab hΩ fn_impl_isNameByte rfl ?_
  generalize PP = P at *
  cbv
  repeat' (first | (refine br (fun h => ?_) (fun h => ?_) <;> cbv) | (refine ⟨VC_drawn htab hΩ hmo (by kernel_rfl) ?_⟩; cbv))
  all_goals (refine .of (congrArg boo ?_); subst hΩ; subst hr; rw [Bool.eq_iff_iff]; simp at *; try omega)
theorem c_l1Letter (c : UInt8) : PCtr PP n_spec_l1Letter [u8 c] (boo (letterB c)) := by
  obtain ⟨Ω, hΩ⟩ : ∃ Ω, Ω = std := ⟨_, rfl⟩
  obtain ⟨r, hr⟩ : ∃ r, r = letterB c := ⟨_, rfl⟩
  rw [← hr]
  unfold letterB at hr
  unfold u8
  generalize (c.toNat : Int) = n at *
  have htab := tab
  have hmo := hmo
  refine PCtr.walk tab hΩ fn_spec_l1Letter rfl ?_
  generalize PP = P at *
  cbv
  repeat' (first | (refine br (fun h => ?_) (fun h => ?_) <;> cbv) | (refine ⟨VC_drawn htab hΩ hmo (by kernel_rfl) ?_⟩; cbv))
  all_goals (refine .of (congrArg boo ?_); subst hΩ; subst hr; rw [Bool.eq_iff_iff]; simp at *; try omega)
theorem c_l1Digit (c : UInt8) : PCtr PP n_spec_l1Digit [u8 c] (boo (digitB c)) := by
  obtain ⟨Ω, hΩ⟩ : ∃ Ω, Ω = std := ⟨_, rfl⟩
  obtain ⟨r, hr⟩ : ∃ r, r = digitB c := ⟨_, rfl⟩
  rw [← hr]
  unfold digitB at hr
  unfold u8
  generalize (c.toNat : Int) = n at *
  have htab := tab
  have hmo := hmo
  refine PCtr.walk tab hΩ fn_spec_l1Digit rfl ?_
  generalize PP = P at *
  cbv
  repeat' (first | (refine br (fun h => ?_) (fun h => ?_) <;> cbv) | (refine ⟨VC_drawn htab hΩ hmo (by kernel_rfl) ?_⟩; cbv))
  all_goals (refine .of (congrArg boo ?_); subst hΩ; subst hr; rw [Bool.eq_iff_iff]; simp at *; try omega)
theorem c_l1Name (c : UInt8) : PCtr PP n_spec_l1Name [u8 c] (boo (nameB c)) := by
  obtain ⟨Ω, hΩ⟩ : ∃ Ω, Ω = std := ⟨_, rfl⟩
  obtain ⟨r, hr⟩ : ∃ r, r = nameB c := ⟨_, rfl⟩
  rw [← hr]
  have hc0 := c_l1Letter c
  have hc1 := c_l1Digit c
  unfold nameB at hr
  unfold u8 at *
  generalize (c.toNat : Int) = n at *
  generalize letterB c = b1 at *
  generalize digitB c = b2 at *
  have htab := tab
  have hmo := hmo
  refine PCtr.walk tab hΩ fn_spec_l1Name rfl ?_
  generalize PP = P at *
  cbv
  repeat' (first | (refine br (fun h => ?_) (fun h => ?_) <;> cbv) | (refine ⟨VC_drawn htab hΩ hmo (by kernel_rfl) ?_⟩; cbv) | (refine QCall_pure (k := 3) (hc0) rfl (fits _) rfl ?_; cbv) | (refine QCall_pure (k := 3) (hc1) rfl (fits _) rfl ?_; cbv) | (refine call_pure hΩ 3 (hc0) rfl (fits _) rfl rfl ?_; cbv) | (refine call_pure hΩ 3 (hc1) rfl (fits _) rfl rfl ?_; cbv))
  all_goals (refine .of (congrArg boo ?_); subst hΩ; subst hr; clear hc0 hc1 htab hmo; first | (rw [show b1 = true by assumption]; rfl) | (rw [show b1 = false by assumption, show b2 = true by assumption]; rfl) | (rw [show b1 = false by assumption, show b2 = false by assumption]; rfl))
theorem c_implVersionFault (v : Ver) : PCtr PP n_impl_VersionFault [v.enc] (i64 (verF v)) := by
  obtain ⟨Ω, hΩ⟩ : ∃ Ω, Ω = std := ⟨_, rfl⟩
  obtain ⟨r, hr⟩ : ∃ r, r = verF v := ⟨_, rfl⟩
  rw [← hr]
  have hc0 := c_within
  unfold verF at hr
  generalize inB = F at *
  have htab := tab
  have hmo := hmo
  refine PCtr.walk tab hΩ fn_impl_VersionFault rfl ?_
  generalize PP = P at *
  cbv
  repeat' (first | (refine br (fun h => ?_) (fun h => ?_) <;> cbv) | (refine ⟨VC_drawn htab hΩ hmo (by kernel_rfl) ?_⟩; cbv) | (refine QCall_pure (k := 3) (hc0 _ _ _) rfl (fits _) rfl ?_; cbv) | (refine call_pure hΩ 3 (hc0 _ _ _) rfl (fits _) rfl rfl ?_; cbv))
  all_goals (refine .of (congrArg i64 ?_); subst hΩ; subst hr; clear hc0 htab hmo; simp_all)
theorem c_specVersionFault (v : Ver) : PCtr PP n_spec_VersionFault [v.enc] (i64 (verF v)) := by
  obtain ⟨Ω, hΩ⟩ : ∃ Ω, Ω = std := ⟨_, rfl⟩
  obtain ⟨r, hr⟩ : ∃ r, r = verF v := ⟨_, rfl⟩
  rw [← hr]
  have hc0 := c_l1In
  unfold verF at hr
  generalize inB = F at *
  have htab := tab
  have hmo := hmo
  refine PCtr.walk tab hΩ fn_spec_VersionFault rfl ?_
  generalize PP = P at *
  cbv
  repeat' (first | (refine br (fun h => ?_) (fun h => ?_) <;> cbv) | (refine ⟨VC_drawn htab hΩ hmo (by kernel_rfl) ?_⟩; cbv) | (refine QCall_pure (k := 3) (hc0 _ _ _) rfl (fits _) rfl ?_; cbv) | (refine call_pure hΩ 3 (hc0 _ _ _) rfl (fits _) rfl rfl ?_; cbv))
  all_goals (refine .of (congrArg i64 ?_); subst hΩ; subst hr; clear hc0 htab hmo; simp_all)
end Go.Proofs.YtfmcncflooechaaDoor

/- Walks: names. Plain theorems. -/
set_option linter.unusedVariables false
set_option linter.unusedSimpArgs false
namespace Go.Proofs.YtfmcncflooechaaDoor
open Go Go.Fw
set_option maxRecDepth 100000
theorem ltS {Ω : Opq} (hΩ : Ω = std) {i : Nat} {xs : List UInt8} (h : Ω.cmp .lss (Ω.int i) (Ω.int (Ω.lenS xs)) = true) : i < xs.length := by
  subst hΩ
  have h : (i : Int) < xs.length := lt_t h
  omega
theorem geS {Ω : Opq} (hΩ : Ω = std) {i : Nat} {xs : List UInt8} (h : Ω.cmp .lss (Ω.int i) (Ω.int (Ω.lenS xs)) = false) : xs.length ≤ i := by
  subst hΩ
  have h : (xs.length : Int) ≤ i := lt_f h
  omega
theorem c_implNameFault (s : List UInt8) : PCtr PP n_impl_NameFault [str s] (i64 (nameF s)) := by
  obtain ⟨Ω, hΩ⟩ : ∃ Ω, Ω = std := ⟨_, rfl⟩
  obtain ⟨r, hr⟩ : ∃ r, r = nameF s := ⟨_, rfl⟩
  rw [← hr]
  have hc : ∀ c, PCtr PP n_impl_isNameByte [.sc (.int .u8 (Ω.u8 c))] (boo (nameB c)) := by subst hΩ; exact c_isNameByte
  unfold nameF at hr
  generalize nameB = F at *
  have htab := tab
  have hle : Ω.lenS s = s.length := by subst hΩ; rfl
  refine PCtr.walk tab hΩ fn_impl_NameFault rfl ?_
  generalize PP = P at *
  cbv
  refine br (fun h1 => ?_) (fun h1 => ?_) <;> cbv
  · exact .of (congrArg i64 (by rw [hr, if_pos (by subst hΩ; exact lt_t h1)]))
  rw [if_neg (by subst hΩ; exact Int.not_lt.2 (lt_f h1))] at hr
  refine br (fun h2 => ?_) (fun h2 => ?_) <;> cbv
  · exact .of (congrArg i64 (by rw [hr, if_pos (by subst hΩ; exact gt_t h2)]))
  rw [if_neg (by subst hΩ; exact Int.not_lt.2 (gt_f h2))] at hr
  have hs : s.length ≤ 12 := by subst hΩ; have h2 : (s.length : Int) ≤ 12 := gt_f h2; omega
  obtain ⟨c0, s', hs0⟩ : ∃ c s', s = c :: s' := by
    subst hΩ
    have h1 : (1 : Int) ≤ s.length := lt_f h1
    cases s with
    | nil => simp at h1
    | cons c s' => exact ⟨_, _, rfl⟩
  rw [show s.headD 0 = c0 by rw [hs0]; rfl] at hr
  refine ⟨⟨by decide⟩, c0, by rw [hs0]; rfl, ?_⟩
  cbv
  refine br (fun h3 => ?_) (fun h3 => ?_) <;> cbv
  · exact .of (congrArg i64 (by rw [hr, if_neg (by subst hΩ; have h3 : (c0.toNat : Int) < 97 := lt_t h3; unfold letterB; simp; omega)]))
  refine ⟨⟨by decide⟩, c0, by rw [hs0]; rfl, ?_⟩
  cbv
  refine br (fun h4 => ?_) (fun h4 => ?_) <;> cbv
  · exact .of (congrArg i64 (by rw [hr, if_neg (by subst hΩ; have h4 : 122 < (c0.toNat : Int) := gt_t h4; unfold letterB; simp; omega)]))
  rw [if_pos (by subst hΩ; have h3 : 97 ≤ (c0.toNat : Int) := lt_f h3; have h4 : (c0.toNat : Int) ≤ 122 := gt_f h4; unfold letterB; simp; omega)] at hr
  refine loopX htab hΩ (fun i : Nat => ⟨[(0, .sc (.string (mkS s))), (23, .sc (.int .i64 (Ω.int (Ω.lenS s)))), (24, .sc (.int .i64 (Ω.int i)))], 33, []⟩) (fun i => i ≤ s.length ∧ r = allCode F 5 (s.drop i)) (fun i => s.length - i) 0
    ⟨Nat.zero_le _, hr⟩ (Sbs.mk rfl rfl ⟨rfl, rfl, zeroI hΩ, trivial⟩) ?_
  rintro i ⟨hi, he⟩
  cbv
  refine br (fun h => ?_) (fun h => ?_) <;> cbv
  · replace h := ltS hΩ h
    obtain ⟨c, hcc⟩ := at_of (cs := s) h
    rw [allCode_at _ _ hcc] at he
    refine ⟨⟨nnI hΩ⟩, c, by subst hΩ; exact hcc, ?_⟩
    cbv
    refine call_pure hΩ 3 (hc c) rfl (fits _) rfl rfl ?_
    cbv
    refine br (fun g => ?_) (fun g => ?_) <;> cbv
    · exact .of (congrArg i64 (by rw [he, notT' hΩ g]; rfl))
    · rw [notF' hΩ g] at he
      exact ⟨i + 1, ⟨by omega, he⟩, by omega, Sbs.mk rfl rfl ⟨rfl, rfl, incI hΩ (by omega), trivial⟩⟩
  · replace h := geS hΩ h
    exact .of (congrArg i64 (by rw [he, List.drop_of_length_le h]; rfl))
theorem c_specNameFault (s : List UInt8) : PCtr PP n_spec_NameFault [str s] (i64 (nameF s)) := by
  obtain ⟨Ω, hΩ⟩ : ∃ Ω, Ω = std := ⟨_, rfl⟩
  obtain ⟨r, hr⟩ : ∃ r, r = nameF s := ⟨_, rfl⟩
  rw [← hr]
  have hc : ∀ c, PCtr PP n_spec_l1Name [.sc (.int .u8 (Ω.u8 c))] (boo (nameB c)) := by subst hΩ; exact c_l1Name
  unfold nameF at hr
  generalize nameB = F at *
  have hc2 := c_l1Letter
  have htab := tab
  have hle : Ω.lenS s = s.length := by subst hΩ; rfl
  refine PCtr.walk tab hΩ fn_spec_NameFault rfl ?_
  generalize PP = P at *
  cbv
  refine br (fun h1 => ?_) (fun h1 => ?_) <;> cbv
  · exact .of (congrArg i64 (by rw [hr, if_pos (by subst hΩ; exact lt_t h1)]))
  rw [if_neg (by subst hΩ; exact Int.not_lt.2 (lt_f h1))] at hr
  refine br (fun h2 => ?_) (fun h2 => ?_) <;> cbv
  · exact .of (congrArg i64 (by rw [hr, if_pos (by subst hΩ; exact gt_t h2)]))
  rw [if_neg (by subst hΩ; exact Int.not_lt.2 (gt_f h2))] at hr
  have hs : s.length ≤ 12 := by subst hΩ; have h2 : (s.length : Int) ≤ 12 := gt_f h2; omega
  obtain ⟨c0, s', hs0⟩ : ∃ c s', s = c :: s' := by
    subst hΩ
    have h1 : (1 : Int) ≤ s.length := lt_f h1
    cases s with
    | nil => simp at h1
    | cons c s' => exact ⟨_, _, rfl⟩
  rw [show s.headD 0 = c0 by rw [hs0]; rfl] at hr
  refine ⟨⟨by decide⟩, c0, by rw [hs0]; rfl, ?_⟩
  cbv
  have hl : PCtr P n_spec_l1Letter [.sc (.int .u8 (Ω.u8 c0))] (boo (letterB c0)) := by subst hΩ; exact hc2 c0
  generalize letterB c0 = b at *
  refine call_pure hΩ 3 hl rfl (fits _) rfl rfl ?_
  cbv
  refine br (fun h3 => ?_) (fun h3 => ?_) <;> cbv
  · exact .of (congrArg i64 (by rw [hr, notT' hΩ (b := b) (by subst hΩ; exact h3)]; rfl))
  rw [notF' hΩ (b := b) (by subst hΩ; exact h3), if_pos rfl] at hr
  refine loopX htab hΩ (fun i : Nat => ⟨[(0, .sc (.string (mkS s))), (3, .sc (.int .i64 (Ω.int i)))], 29, []⟩) (fun i => i ≤ s.length ∧ r = allCode F 5 (s.drop i)) (fun i => s.length - i) 0
    ⟨Nat.zero_le _, hr⟩ (Sbs.mk rfl rfl ⟨rfl, zeroI hΩ, trivial⟩) ?_
  rintro i ⟨hi, he⟩
  cbv
  refine br (fun h => ?_) (fun h => ?_) <;> cbv
  · replace h := ltS hΩ h
    obtain ⟨c, hcc⟩ := at_of (cs := s) h
    rw [allCode_at _ _ hcc] at he
    refine ⟨⟨nnI hΩ⟩, c, by subst hΩ; exact hcc, ?_⟩
    cbv
    refine call_pure hΩ 3 (hc c) rfl (fits _) rfl rfl ?_
    cbv
    refine br (fun g => ?_) (fun g => ?_) <;> cbv
    · exact .of (congrArg i64 (by rw [he, notT' hΩ g]; rfl))
    · rw [notF' hΩ g] at he
      exact ⟨i + 1, ⟨by omega, he⟩, by omega, Sbs.mk rfl rfl ⟨rfl, incI hΩ (by omega), trivial⟩⟩
  · replace h := geS hΩ h
    exact .of (congrArg i64 (by rw [he, List.drop_of_length_le h]; rfl))
end Go.Proofs.YtfmcncflooechaaDoor

/- Versions are compared as structs. Plain theorems. -/
set_option linter.unusedVariables false
set_option linter.unusedSimpArgs false
namespace Go.Proofs.YtfmcncflooechaaDoor
open Go Go.Fw
theorem verFields : PP.fieldsOf 41 = #[⟨"A", 2, 0, false, "", "", 0⟩, ⟨"B", 2, 1, false, "", "", 8⟩, ⟨"C", 2, 2, false, "", "", 16⟩] := by kernel_rfl
theorem verUnder : PP.underlying 41 = some (.struct (PP.fieldsOf 41)) := by kernel_rfl
theorem verIn : PP.stoodInHeld 41 = false := by kernel_rfl
theorem verG : PP.eqGuardType PP.depth 41 = false := by kernel_rfl
theorem agg2 : aggT PP 2 = some false := by kernel_rfl
theorem under2 : PP.underlying 2 = some (.int .i64) := by kernel_rfl
def Ver.vals (v : Ver) : List Value := [.int .i64 v.a, .int .i64 v.b, .int .i64 v.c]
theorem part2 {P : Program} (h : aggT P 2 = some false) {cs : Array Value} {i : Nat} {v : Value} (hv : cs[i]? = some v) (w : World) : (part 2 cs i).run P w = .ok v w := by
  simp [part, run_isAgg h, hv]
theorem ver_equal (a b : Ver) (w : World) : (Op.equal 41 (.agg a.vals.toArray) (.agg b.vals.toArray)).run PP w = .ok (decide (a = b)) w := by
  show (Op.equalIn (9999 + 1) 41 _ _).run PP w = _
  rw [run_equalIn_struct w 9999 41 _ _ verUnder verIn, verFields]
  have hu := under2
  have ha := agg2
  generalize PP = P at *
  have e : decide (a = b) = ((a.a == b.a) && ((a.b == b.b) && (a.c == b.c))) := by
    cases a; cases b
    rw [Bool.eq_iff_iff]; simp
  rw [e]
  have p0 : ∀ (v : Ver), (part 2 v.vals.toArray 0).run P w = .ok (.int .i64 v.a) w := fun v => part2 ha rfl w
  have p1 : ∀ (v : Ver), (part 2 v.vals.toArray 1).run P w = .ok (.int .i64 v.b) w := fun v => part2 ha rfl w
  have p2 : ∀ (v : Ver), (part 2 v.vals.toArray 2).run P w = .ok (.int .i64 v.c) w := fun v => part2 ha rfl w
  have q : ∀ x y : Int, (Op.equalIn 9999 2 (.int .i64 x) (.int .i64 y)).run P w = .ok (x == y) w := fun x y => run_equalIn_int w 9998 2 .i64 .i64 x y hu
  generalize hd : 9999 = d at q ⊢
  simp only [Op.eqFields, Sem.run_bind, Sem.run_ite, p0, p1, p2, q, Result.andThen_ok]
  cases h1 : (a.a == b.a) <;> cases h2 : (a.b == b.b) <;> cases h3 : (a.c == b.c) <;> simp
theorem ver_guard (op : BinOp) (x y : Operand) (a b : Ver) (w : World) : (eqGuard op 41 x y (.agg a.vals.toArray) (.agg b.vals.toArray)).run PP w = .ok () w := by
  have hg := verG
  generalize PP = P at *
  have h1 : ∀ b : Bool, P.eqGuardType P.depth 41 = true → b = false → False := fun b h => by rw [hg] at h; cases h
  unfold eqGuard
  split
  · simp
    intro h; rw [hg] at h; cases h
  · simp
    intro h; rw [hg] at h; cases h
  · simp
theorem ver_neq (a b : Ver) (x y : Operand) (w : World) : (do eqGuard .neq 41 x y (.agg a.vals.toArray) (.agg b.vals.toArray); binOp .neq 41 (.agg a.vals.toArray) (.agg b.vals.toArray) : Sem Value).run PP w = .ok (.bool (!decide (a = b))) w := by
  have h := ver_equal a b w
  have g := ver_guard .neq x y a b w
  generalize PP = P at *
  simp only [Sem.run_bind, g, Result.andThen_ok, binOp, h]
  rfl
theorem ver_eql (a b : Ver) (x y : Operand) (w : World) : (do eqGuard .eql 41 x y (.agg a.vals.toArray) (.agg b.vals.toArray); binOp .eql 41 (.agg a.vals.toArray) (.agg b.vals.toArray) : Sem Value).run PP w = .ok (.bool (decide (a = b))) w := by
  have h := ver_equal a b w
  have g := ver_guard .eql x y a b w
  generalize PP = P at *
  simp only [Sem.run_bind, g, Result.andThen_ok, binOp, h]
  rfl
structure VerEq (P : Program) : Prop where
  neq : ∀ (a b : Ver) (x y : Operand) (w : World), (do eqGuard .neq 41 x y (.agg a.vals.toArray) (.agg b.vals.toArray); binOp .neq 41 (.agg a.vals.toArray) (.agg b.vals.toArray) : Sem Value).run P w = .ok (.bool (!decide (a = b))) w
  eql : ∀ (a b : Ver) (x y : Operand) (w : World), (do eqGuard .eql 41 x y (.agg a.vals.toArray) (.agg b.vals.toArray); binOp .eql 41 (.agg a.vals.toArray) (.agg b.vals.toArray) : Sem Value).run P w = .ok (.bool (decide (a = b))) w
theorem verEq : VerEq PP := ⟨ver_neq, ver_eql⟩
theorem eqX_eql {P : Program} (hP : VerEq P) (a b : Ver) {k : A → Prop} (h : k (boo (decide (a = b)))) : EqX P .eql 41 a.cells b.cells k := ⟨_, _, _, rfl, rfl, hP.eql a b, h⟩
end Go.Proofs.YtfmcncflooechaaDoor

/- Regions that draw their order, of which a first part only reads but for one slice that is made, and the rest stands in one order. Plain theorems, no condition. -/
set_option linter.unusedVariables false
set_option linter.unusedSimpArgs false
namespace Go.Fw
section
variable {P : Program}
def BelowS (P : Program) {α : Type} (m : Sem α) : Prop := ∀ w v w', m.run P w = .ok v w' → Go.RowKit.Below w.heap.size w w'
theorem BelowS.pure {α : Type} (x : α) : BelowS P (Pure.pure x : Sem α) := fun w v w' h => by
  simp only [Sem.run_pure, Result.ok.injEq] at h
  rw [← h.2]; exact .refl _ _
theorem BelowS.bind {α β : Type} {m : Sem α} {f : α → Sem β} (h : BelowS P m) (hf : ∀ x, BelowS P (f x)) : BelowS P (m >>= f) := fun w v w' hr => by
  rw [Sem.run_bind] at hr
  generalize hm : m.run P w = r at hr
  cases r with
  | halt => simp [Result.andThen] at hr
  | ok x w1 =>
    simp only [Result.andThen_ok] at hr
    have h1 := h _ _ _ hm
    have h2 := hf x _ _ _ hr
    exact ⟨h2.os.trans h1.os, h2.tape.trans h1.tape, h2.output.trans h1.output, Nat.le_trans h1.size h2.size, fun b hb => (h2.block b (Nat.lt_of_lt_of_le hb h1.size)).trans (h1.block b hb)⟩
theorem BelowS.same {α : Type} {m : Sem α} (h : ∀ w v w', m.run P w = .ok v w' → w' = w) : BelowS P m := fun w v w' hr => by
  rw [h _ _ _ hr]; exact .refl _ _
end
/-! Any order, told by what each operation yields. -/
section
variable {P : Program} {ops : Array Oper} {md : Region.Mode} {Y : Nat → Value → Sem Next → Prop}
def gOp (ops : Array Oper) (Y : Nat → Value → Sem Next → Prop) (i : Nat) (K : Act → Prop) (a : Act) : Prop :=
  match ops[i]? with
  | none => K a
  | some o => if Region.wanted o (yielded ops a.tmps) then ∃ v, Y i v (execOp a.eval o) ∧ K (a.put o.dst v) else K (a.put o.dst undef)
def YG (ops : Array Oper) (Y : Nat → Value → Sem Next → Prop) (i : Nat) (o : Oper) (v : Value) (a : Act) : Prop :=
  (Region.wanted o (yielded ops a.tmps) = true ∧ Y i v (execOp a.eval o)) ∨ (Region.wanted o (yielded ops a.tmps) = false ∧ v = undef)
theorem YG.gOp {i : Nat} {o : Oper} {v : Value} {a : Act} (hi : ops[i]? = some o) (hy : YG ops Y i o v a) {K : Act → Prop} (h : K (a.put o.dst v)) : Fw.gOp ops Y i K a := by
  unfold Fw.gOp
  simp only [hi]
  rcases hy with ⟨hw, hv⟩ | ⟨hw, rfl⟩
  · simp only [hw, if_true]; exact ⟨v, hv, h⟩
  · simp only [hw, Bool.false_eq_true, if_false]; exact h
def anyG (md : Region.Mode) (ops : Array Oper) (Y : Nat → Value → Sem Next → Prop) (n : Nat) (L : Array Bool → Act → Prop) : Nat → Array Bool → Act → Prop
  | 0, listed, a => L listed a
  | f + 1, listed, a => Region.ready md ops listed ≠ [] ∧ ∀ i ∈ Region.ready md ops listed, i < n ∧ gOp ops Y i (anyG md ops Y n L f (listed.setIfInBounds i true)) a
/-! The reckoning. -/
variable {T : Nat → Option TI} {S : State} {o : Oper}
end
end Go.Fw

/- Sets with a code. Plain theorems. -/
set_option linter.unusedVariables false
set_option linter.unusedSimpArgs false
namespace Go.Proofs.YtfmcncflooechaaDoor
open Go Go.Fw
set_option maxRecDepth 100000
def Pck.zero : Pck := ⟨[], Ver.zero, 0, [], [], []⟩
end Go.Proofs.YtfmcncflooechaaDoor

/- Helpers of the walks. Plain theorems. -/
set_option linter.unusedVariables false
set_option linter.unusedSimpArgs false
namespace Go.Proofs.YtfmcncflooechaaDoor
open Go Go.Fw
set_option maxRecDepth 100000
def fill {α : Type} (f : α → A) (z : A) (cs : List α) (i : Nat) : List A := (cs.take i).map f ++ List.replicate (cs.length - i) z
theorem fill_set {α : Type} {f : α → A} {z : A} {cs : List α} {i : Nat} {c : α} (hc : cs[i]? = some c) : (fill f z cs i).set i (f c) = fill f z cs (i + 1) := by
  have hi : i < cs.length := (List.getElem?_eq_some_iff.1 hc).1
  unfold fill
  rw [List.take_add_one, hc, List.map_append, List.set_append]
  have e : cs.length - i = (cs.length - (i + 1)) + 1 := by omega
  simp [e, List.replicate_succ, Nat.min_eq_left (Nat.le_of_lt hi)]
theorem fill_length {α : Type} {f : α → A} {z : A} {cs : List α} {i : Nat} (hi : i ≤ cs.length) : (fill f z cs i).length = cs.length := by simp [fill]; omega
theorem fill_all {α : Type} {f : α → A} {z : A} {cs : List α} {i : Nat} {p : A → Prop} (h1 : ∀ c, p (f c)) (h2 : p z) : ∀ y ∈ fill f z cs i, p y := by
  intro y hy
  rcases List.mem_append.1 hy with hy | hy
  · obtain ⟨c, _, rfl⟩ := List.mem_map.1 hy; exact h1 c
  · rw [(List.mem_replicate.1 hy).2]; exact h2
theorem fill_zero {α : Type} {f : α → A} {z : A} {cs : List α} : fill f z cs 0 = List.replicate cs.length z := by simp [fill]
theorem fill_full {α : Type} {f : α → A} {z : A} {cs : List α} : fill f z cs cs.length = cs.map f := by simp [fill]
theorem roFAll {n : Nat} {xs : List A} (h : ∀ x ∈ xs, roFree x = true) : roFree (.sl true n xs) = true := by rw [roFree_sl, Bool.true_and, List.all_eq_true]; exact h
theorem fitsE {k : Nat} {a b : List A} (h : a = b) : fitA.fitL k a b := h ▸ fits a
/-- ys is xs but for what stands up to i. -/
structure Like (xs : List A) (i : Nat) (ys : List A) : Prop where
  len : ys.length = xs.length
  at' : ∀ q, i < q → ys[q]? = xs[q]?
theorem Like.set {Ω : Opq} (hΩ : Ω = std) {xs ys : List A} {i : Nat} {z : A} (h : Like xs i ys) : Like xs i (Ω.set ys (Ω.plus 0 (Ω.nat (Ω.int i))) z) := by
  subst hΩ
  show Like xs i (ys.set (0 + i) z)
  rw [Nat.zero_add]
  exact ⟨by simpa using h.len, fun q hq => by rw [List.getElem?_set_ne (by omega)]; exact h.at' q hq⟩
theorem ro_vw {S : State} {k r len n : Nat} {ys zs : List A} (hr : Fw.rowAt S.rows r = some ⟨n, ys, false⟩) (hl : len = ys.length) (hf : ys.map frz = zs) : roO S (k + 1) (.vw r 0 len) = some (.sl false n zs) := by
  simp only [roO, hr]
  rw [hl, List.drop_zero, List.take_length, hf]
  rfl
theorem mapO1 {f : A → Option A} {x x' : A} (h : f x = some x') : mapO f [x] = some [x'] := by simp [mapO, h]
theorem mapO2 {f : A → Option A} {x x' y y' : A} (h : f x = some x') (h2 : f y = some y') : mapO f [x, y] = some [x', y'] := by simp [mapO, h, h2]
end Go.Proofs.YtfmcncflooechaaDoor

/- Branches told as facts on numbers. Plain theorems. -/
set_option linter.unusedVariables false
namespace Go.Proofs.YtfmcncflooechaaDoor
open Go Go.Fw
theorem iteA {Ω : Opq} (hΩ : Ω = std) {x y c : Bool} (h : Ω.ite true x y = c) : x = c := by subst hΩ; exact h
theorem iteB {Ω : Opq} (hΩ : Ω = std) {x y c : Bool} (h : Ω.ite false x y = c) : y = c := by subst hΩ; exact h
theorem notA {Ω : Opq} (hΩ : Ω = std) {x : Bool} (h : Ω.not x = true) : x = false := notT' hΩ h
theorem notB {Ω : Opq} (hΩ : Ω = std) {x : Bool} (h : Ω.not x = false) : x = true := notF' hΩ h
theorem ltZt {Ω : Opq} (hΩ : Ω = std) {x y : Int} (h : Ω.cmp .lss x y = true) : x < y := by subst hΩ; exact lt_t h
theorem ltZf {Ω : Opq} (hΩ : Ω = std) {x y : Int} (h : Ω.cmp .lss x y = false) : y ≤ x := by subst hΩ; exact lt_f h
theorem leZt {Ω : Opq} (hΩ : Ω = std) {x y : Int} (h : Ω.cmp .leq x y = true) : x ≤ y := by subst hΩ; exact le_t h
theorem leZf {Ω : Opq} (hΩ : Ω = std) {x y : Int} (h : Ω.cmp .leq x y = false) : y < x := by subst hΩ; exact le_f h
theorem gtZt {Ω : Opq} (hΩ : Ω = std) {x y : Int} (h : Ω.cmp .gtr x y = true) : y < x := by subst hΩ; exact gt_t h
theorem gtZf {Ω : Opq} (hΩ : Ω = std) {x y : Int} (h : Ω.cmp .gtr x y = false) : x ≤ y := by subst hΩ; exact gt_f h
theorem geZt {Ω : Opq} (hΩ : Ω = std) {x y : Int} (h : Ω.cmp .geq x y = true) : y ≤ x := by subst hΩ; exact ge_t h
theorem geZf {Ω : Opq} (hΩ : Ω = std) {x y : Int} (h : Ω.cmp .geq x y = false) : x < y := by subst hΩ; exact ge_f h
theorem eqZt {Ω : Opq} (hΩ : Ω = std) {x y : Int} (h : Ω.cmp .eql x y = true) : x = y := by subst hΩ; exact eq_t h
theorem eqZf {Ω : Opq} (hΩ : Ω = std) {x y : Int} (h : Ω.cmp .eql x y = false) : x ≠ y := by subst hΩ; exact eq_f h
theorem neZt {Ω : Opq} (hΩ : Ω = std) {x y : Int} (h : Ω.cmp .neq x y = true) : x ≠ y := by subst hΩ; exact ne_t h
theorem neZf {Ω : Opq} (hΩ : Ω = std) {x y : Int} (h : Ω.cmp .neq x y = false) : x = y := by subst hΩ; exact ne_f h
end Go.Proofs.YtfmcncflooechaaDoor

/- Regions that draw their order, of which some operations only read what nobody in it writes, and the others stand in one order. Plain theorems, no condition. -/
set_option linter.unusedVariables false
set_option linter.unusedSimpArgs false
namespace Go.Fw
section
variable {P : Program} {T : Nat → Option TI} {S : State} {o : Oper}
def Agree (G : Nat → Prop) (w w' : World) : Prop := ∀ b, G b → w'.heap[b]? = w.heap[b]?
/-- The operation yields a value told by x, the same one as long as what may be read stands. -/
def VOG (P : Program) (o : Oper) (S : State) (x : A) : Prop :=
  ∀ (E : Env P) (G : Nat → Prop) (gs : Gh) (a : Act) (w : World), Inv E G gs S a.tmps w →
    ∃ v, (∀ w', Agree G w w' → (execOp a.eval o).run P w' = .ok (.value v) w') ∧ TRel w G S.rows gs x v []
theorem VOG_move {x : Operand} (ho : o.op = .move x ∨ o.op = .assign x) (hx : okO x = true) : VOG P o S (ev S x) :=
  fun E G gs a w hi => ⟨a.eval x, fun w' hw' => by rcases ho with h | h <;> simp [execOp, h], ev_rel hi x hx⟩
theorem VOG_load_rp {t : TypeId} {x : Operand} {xs : List A} {z : A} (ho : o.op = .load t x) (hx : okO x = true) (he : ev S x = .rp xs)
    (ha : aggT P t = some false) (hz : xs[0]? = some z) : VOG P o S z := by
  refine fun E G gs a w hi => ?_
  have h1 := ev_rel hi x hx
  rw [he] at h1
  obtain ⟨b, k, cur, e, fr, hv, hh, hg, hl⟩ := rp_inv h1
  obtain ⟨v, hv1, hv2⟩ := hl.get 0 z hz
  have hcur : cur[k]? = some v := by
    have h0 : 0 < xs.length := by
      rcases Nat.eq_zero_or_pos xs.length with h | h
      · rw [List.eq_nil_of_length_eq_zero h] at hz; simp at hz
      · exact h
    rw [List.getElem?_take_of_lt h0, List.getElem?_drop] at hv1
    simpa using hv1
  exact ⟨v, fun w' hw' => by simp [execOp, ho, Instr.loadAt, hv, Instr.sureAddr, run_loadVar_cell ha ((hw' b hg).trans hh) hcur], .of hv2⟩
theorem VOG_load_rpAgg {t : TypeId} {x : Operand} {xs : List A} {s : Nat} (ho : o.op = .load t x) (hx : okO x = true) (he : ev S x = .rp xs)
    (ha : aggT P t = some true) (hs : szT P t = some s) (hq : s ≤ xs.length) : VOG P o S (.agg (xs.take s)) := by
  refine fun E G gs a w hi => ?_
  have h1 := ev_rel hi x hx
  rw [he] at h1
  obtain ⟨b, k, cur, e, fr, hv, hh, hg, hl⟩ := rp_inv h1
  have h2 := hl.take0 s
  have h3 := h2.length
  rw [List.take_take, Nat.min_eq_left hq] at h2 h3
  exact ⟨.agg ((cur.toList.drop k).take s).toArray, by
    intro w' hw'
    simp [execOp, ho, Instr.loadAt, hv, Instr.sureAddr, run_loadVar_agg ha hs ((hw' b hg).trans hh) rfl (by rw [h3]; simp; omega)], .of (.agg h2)⟩
theorem VOG_slice_sl {t e : TypeId} {x : Operand} {lo hi : Option Operand} {n : Nat} {xs : List A} {l h : Nat} (ho : o.op = .slice t x lo hi none) (hx : okO x = true) (hlo : okOpt lo = true) (hhi : okOpt hi = true)
    (he : ev S x = .sl false n xs) (ht : elemT P t = some e) (hs : szT P e = some n) (h1 : bnd (lo.map (ev S)) 0 = some (l : Int)) (h2 : bnd (hi.map (ev S)) xs.length = some (h : Int)) (hlh : l ≤ h) (hhl : h ≤ xs.length)
    : VOG P o S (.sl false n ((xs.take h).drop l)) := by
  refine fun E G gs a w hinv => ?_
  have e1 := ev_rel hinv x hx
  rw [he] at e1
  obtain ⟨a1, a2⟩ := opt_rel hinv lo hlo
  obtain ⟨b1, b2⟩ := opt_rel hinv hi hhi
  have hu := elemT_inv ht
  rcases slf_inv e1 with ⟨⟨oa, hv⟩, rfl⟩ | ⟨b, k, cap, cur, et, fr, hv, hh, hg, hw, hrel, hcap, hm⟩
  · simp at hhl
    subst hhl
    have : l = 0 := by omega
    subst this
    have hb := slice_bounds (P := P) (isS := true) (lo.map a.eval) (hi.map a.eval) _ _ h1 h2 a1 a2 b1 b2 (by omega) (by simp) (cap := 0) (by simp)
    simp only [List.length_nil] at hb
    refine ⟨.slice oa 0 0, ?_, .of (by cases oa with | none => simpa using Rel.nils | some ad => simpa using Rel.roz)⟩
    intro w' hw'
    cases oa <;>
    simp [execOp, ho, hv, Instr.sliceAt, run_underlying hu, Instr.slice, hb, run_sizeOf hs]
  · have hb := slice_bounds (P := P) (isS := true) (lo.map a.eval) (hi.map a.eval) _ _ h1 h2 a1 a2 b1 b2 hlh hhl hcap
    have hlen : h - l = ((xs.take h).drop l).length := by simp; omega
    refine ⟨.slice (some ⟨b, if cap = l then k else k + l * n, none⟩) (h - l) (cap - l), ?_, .of (.ro hh hg (fun x hx => hw x (List.mem_of_mem_take (List.mem_of_mem_drop hx))) hlen rfl ?_ (by omega) (by omega))⟩
    · intro w' hw'
      simp [execOp, ho, hv, Instr.sliceAt, run_underlying hu, Instr.slice, hb, run_sizeOf hs]
      split <;> simp [add_none]
    · have h3 := (hrel.take0 (h * n)).drop0 (l * n)
      rw [flat_take h hw, flat_drop l (fun x hx => hw x (List.mem_of_mem_take hx))] at h3
      have hle : h * n ≤ xs.length * n := Nat.mul_le_mul_right _ hhl
      have e4 : List.drop (l * n) (List.take (h * n) (List.take (xs.length * n) (cur.toList.drop k))) = (cur.toList.drop (k + l * n)).take ((h - l) * n) := by
        rw [List.take_take, Nat.min_eq_left hle, List.drop_take, List.drop_drop, ← Nat.sub_mul]
      rw [e4] at h3
      split
      · rename_i hc
        have h0 : h - l = 0 := by omega
        rw [h0] at h3 ⊢
        simpa using h3
      · exact h3
theorem VOG_binOp {op : BinOp} {t t' : TypeId} {x y : Operand} {u v : Value} (ho : o.op = .binOp op t x y t') (hx : okO x = true) (hy : okO y = true)
    (h1 : ev S x = .sc u) (h2 : ev S y = .sc v) (h : (binS P op t u v).1) : VOG P o S (.sc (binS P op t u v).2) := by
  refine fun E G gs a w hi => ?_
  have e1 := ev_rel hi x hx
  have e2 := ev_rel hi y hy
  rw [h1] at e1
  rw [h2] at e2
  have v1 := (sc_inv e1).1
  have v2 := (sc_inv e2).1
  refine ⟨_, fun w' hw' => ?_, .of (.sc (binS_run h x y w).2)⟩
  have hr := (binS_run h x y w').1
  simp only [execOp, ho, v1, v2, Sem.run_bind] at hr ⊢
  rw [hr]
  rfl
theorem VOG_makeFunc {fn : FuncId} {first caps : Array Operand} (ho : o.op = .makeFunc (.func fn) first caps) (hf : first.toList = []) (hg : fn < 1000000) : VOG P o S (.clo fn (caps.toList.map (ev S))) := by
  refine fun E G gs a w hi => ⟨mkFn fn (caps.toList.map a.eval), fun w' hw' => ?_, .clo (evs_rel hi caps.toList)⟩
  have : first = #[] := by apply Array.toList_inj.1; simpa using hf
  subst this
  have e : (caps.toList.map a.eval).toArray = caps.map a.eval := by apply Array.toList_inj.1; simp
  unfold mkFn
  rw [if_pos hg, e]
  simp [execOp, ho, Instr.makeFunc]
theorem vBin_sc (hT : TabOK P T) {k : A → Prop} {op : BinOp} {t : TypeId} {x y : A} (h : vBin std T op t x y k) : ∃ u v, x = .sc u ∧ y = .sc v ∧ (binS P op t u v).1 ∧ k (.sc (binS P op t u v).2) := by
  unfold vBin at h
  split at h <;> try exact h.elim
  · rename_i ka a kb b
    have go : (binS P op t (.int ka a) (.int kb b)).1 → k (.sc (binS P op t (.int ka a) (.int kb b)).2) → ∃ u v, A.sc (.int ka a) = .sc u ∧ A.sc (.int kb b) = .sc v ∧ (binS P op t u v).1 ∧ k (.sc (binS P op t u v).2) := fun hc hk => ⟨_, _, rfl, rfl, hc, hk⟩
    unfold vBinI at h
    split at h
    · exact go h.1.h h.2
    · exact go h.1.h h.2
    · split at h <;> try exact h.elim
      rename_i hk
      subst hk
      split at h
      · exact go rfl h
      · exact go rfl h
      · exact go rfl h
      · exact go rfl h
      · exact go rfl h
      · exact go rfl h
      · exact go rfl h
      · exact go ⟨rfl, h.1.h⟩ h.2
      · exact go ⟨rfl, h.1.h⟩ h.2
      · cases op <;> first | exact go rfl h | simp_all
  · rename_i a b
    have go : (binS P op t (.string a) (.string b)).1 → k (.sc (binS P op t (.string a) (.string b)).2) → ∃ u v, A.sc (.string a) = .sc u ∧ A.sc (.string b) = .sc v ∧ (binS P op t u v).1 ∧ k (.sc (binS P op t u v).2) := fun hc hk => ⟨_, _, rfl, rfl, hc, hk⟩
    unfold vBinS at h
    split at h <;> try exact h.elim
    · exact go h.1.h h.2
    all_goals exact go trivial h
  · rename_i a b
    split at h <;> try exact h.elim
    · rename_i i hi
      split at h <;> try exact h.elim
      rename_i hb
      exact ⟨_, _, rfl, rfl, by rw [← (tiOf_ok (hT _ _ hi)).bool] at hb; exact hb, h⟩
    · rename_i i hi
      split at h <;> try exact h.elim
      rename_i hb
      exact ⟨_, _, rfl, rfl, by rw [← (tiOf_ok (hT _ _ hi)).bool] at hb; exact hb, h⟩
/-- What an operation reads that nobody writes. -/
def vGOp (Ω : Opq) (T : Nat → Option TI) (o : Oper) (S : State) (k : A → Prop) : Prop :=
  match o.op with
  | .move x => k (ev S x)
  | .assign x => k (ev S x)
  | .binOp op t x y _ => vBin Ω T op t (ev S x) (ev S y) k
  | .load t x => (match T t, ev S x with
    | some i, .rp xs => if i.ag then (if i.sz ≤ xs.length then k (.agg (xs.take i.sz)) else False) else (match xs[0]? with
      | some z => k z
      | none => False)
    | _, _ => False)
  | .slice t x lo hi none => (match ev S x, szEl T t with
    | .sl false n xs, some (_, ei) => if ei.sz = n then vLo Ω (lo.map (ev S)) 0 fun c1 l => vLo Ω (hi.map (ev S)) (Ω.len xs) fun c2 h => Ob (fun _ => c1 () ∧ c2 () ∧ l ≤ h ∧ h ≤ xs.length) ∧ k (.sl false n (Ω.seg l h xs)) else False
    | _, _ => False)
  | .makeFunc (.func g) first caps => (match first.toList with
    | [] => if g < 1000000 then k (.clo g (caps.toList.map (ev S))) else False
    | _ => False)
  | _ => False
theorem vGOp_ok (hT : TabOK P T) {k : A → Prop} (h : vGOp std T o S k) : ∃ z, VOG P o S z ∧ k z := by
  have ok : ∀ x : Option Operand, okOpt x = true := fun x => by cases x <;> rfl
  unfold vGOp at h
  split at h
  · rename_i x ho; exact ⟨_, VOG_move (.inl ho) rfl, h⟩
  · rename_i x ho; exact ⟨_, VOG_move (.inr ho) rfl, h⟩
  · rename_i ho
    obtain ⟨u, v, h1, h2, h3, h4⟩ := vBin_sc hT h
    exact ⟨_, VOG_binOp ho rfl rfl h1 h2 h3, h4⟩
  · rename_i t x ho
    split at h <;> try exact h.elim
    rename_i i xs hi hx
    have hti := tiOf_ok (hT _ _ hi)
    split at h
    · rename_i hag
      split at h <;> try exact h.elim
      rename_i hle
      exact ⟨_, VOG_load_rpAgg ho rfl hx (by rw [hti.ag, hag]) hti.sz hle, h⟩
    · rename_i hag
      split at h <;> try exact h.elim
      rename_i z hz
      exact ⟨_, VOG_load_rp ho rfl hx (by rw [hti.ag]; simpa using hag) hz, h⟩
  · rename_i t x lo hi ho
    split at h <;> try exact h.elim
    rename_i n xs e ei hx hs
    obtain ⟨he, hei⟩ := szEl_ok hT hs
    split at h <;> try exact h.elim
    rename_i hn
    obtain ⟨c1, l, h, g1⟩ := vLo_ok h
    obtain ⟨c2, u, h, g2⟩ := vLo_ok h
    obtain ⟨h0, h⟩ := h
    obtain ⟨h1, h2, h3, h4⟩ := h0.h
    exact ⟨_, VOG_slice_sl ho rfl (ok _) (ok _) hx he (by rw [hei.sz, hn]) (g1 h1) (g2 h2) h3 h4, h⟩
  · rename_i g first caps ho
    split at h <;> try exact h.elim
    rename_i hf
    split at h <;> try exact h.elim
    rename_i hg
    exact ⟨_, VOG_makeFunc ho hf hg, h⟩
  · exact h.elim
def vGs (Ω : Opq) (T : Nat → Option TI) (ops : List Oper) : List Nat → State → (State → Prop) → Prop
  | [], S, K => K S
  | q :: qs, S, K => match ops[q]? with
    | some o => (match o.guard with
      | none => vGOp Ω T o S fun z => vGs Ω T ops qs (S.put o.dst z) K
      | some _ => False)
    | none => False
/-- The surroundings from the region's own beginning on. -/
def envAt (E : Env P) (G : Nat → Prop) (gs : Gh) (S : State) (w : World) : Env P :=
  ⟨w, G, fun b => ∃ r row, rowAt S.rows r = some row ∧ b ∈ gs.all r, E.gv⟩
theorem Inv.at {E : Env P} {G : Nat → Prop} {gs : Gh} {tmps : Array Value} {w : World} (hi : Inv E G gs S tmps w) : Inv (envAt E G gs S w) G gs S tmps w :=
  ⟨fun _ _ _ => rfl, rfl, rfl, rfl, Nat.le_refl _, hi.sz, fun _ h => h, fun _ h => .inl h, hi.glt, hi.row, hi.nod, fun r row hr b hb => ⟨(hi.own r row hr b hb).1, .inl ⟨r, row, hr, hb⟩⟩, hi.dis, hi.tmp⟩
theorem Inv.back {E : Env P} {G G' : Nat → Prop} {gs gs' : Gh} {S' : State} {tmps tmps' : Array Value} {w w' : World} (hi : Inv E G gs S tmps w) (hi' : Inv (envAt E G gs S w) G' gs' S' tmps' w') : Inv E G' gs' S' tmps' w' := by
  have hfin : ∀ b, (∃ r row, rowAt S.rows r = some row ∧ b ∈ gs.all r) → E.Fin b ∨ E.w0.heap.size ≤ b := fun b ⟨r, row, hr, hb⟩ => (hi.own r row hr b hb).2
  refine ⟨fun b h hf => ?_, hi'.os.trans hi.os, hi'.tape.trans hi.tape, hi'.output.trans hi.output, Nat.le_trans hi.size hi'.size, hi'.sz, fun b h => hi'.gsub b (hi.gsub b h), fun b h => ?_, hi'.glt, hi'.row, hi'.nod, fun r row hr b hb => ?_, hi'.dis, hi'.tmp⟩
  · rw [hi'.keep b (Nat.lt_of_lt_of_le h hi.size) fun hb => by
      rcases hfin b hb with h1 | h1
      · exact hf h1
      · omega]
    exact hi.keep b h hf
  · rcases hi'.gnew b h with h1 | ⟨r, row, hr, hb⟩ | h1
    · exact hi.gnew b h1
    · exact .inr (hi.own r row hr b hb).2
    · exact .inr (.inr (Nat.le_trans hi.size h1))
  · refine ⟨(hi'.own r row hr b hb).1, ?_⟩
    rcases (hi'.own r row hr b hb).2 with h1 | h1
    · exact hfin b h1
    · exact .inr (Nat.le_trans hi.size h1)
theorem Inv.agree {E : Env P} {G G' : Nat → Prop} {gs gs' : Gh} {S' : State} {tmps tmps' : Array Value} {w w' : World} (hi : Inv E G gs S tmps w) (hi' : Inv (envAt E G gs S w) G' gs' S' tmps' w') : Agree G w w' := fun b hb =>
  hi'.keep b (hi.glt b hb) fun ⟨r, row, hr, h⟩ => (hi.own r row hr b h).1 hb
end
end Go.Fw

/- Regions that draw their order, in which operations read rows that others leave alone for a while. Plain theorems, no condition. -/
set_option linter.unusedVariables false
set_option linter.unusedSimpArgs false
namespace Go.Fw

/-! The order of a region: what keeps a condition on the world, and what need not. -/
section
variable {P : Program} {ops : Array Oper} {Q : Exit → Act → World → Prop} {md : Region.Mode} {kp : Nat → Bool} {Sc : World → Prop}
/-- j waits for i, maybe through others. -/
def waitsB (md : Region.Mode) (ops : Array Oper) (i : Nat) : Nat → Nat → Bool
  | 0, _ => false
  | f + 1, j => match ops[j]? with
    | some oj => oj.after.any fun e => Region.binds md e && (e.on == i || waitsB md ops i f e.on)
    | none => false
/-- What has come up has come behind all that it waits for. -/
structure Closed (md : Region.Mode) (ops : Array Oper) (l : Array Bool) : Prop where
  h : ∀ j oj, ops[j]? = some oj → l.getD j false = true → ∀ e ∈ oj.after, Region.binds md e = true → l.getD e.on false = true
theorem Closed.waits {l : Array Bool} (hc : Closed md ops l) {i : Nat} (hi : l.getD i true = false) : ∀ (f j : Nat), (∀ oj, ops[j]? = some oj → ∀ e ∈ oj.after, Region.binds md e = true → l.getD e.on false = true) → waitsB md ops i f j = false
  | 0, j, _ => rfl
  | f + 1, j, h => by
    unfold waitsB
    split
    · rename_i oj hj
      rw [Array.any_eq_false]
      intro k hk
      simp only [Bool.and_eq_true, Bool.or_eq_true, beq_iff_eq, not_and, not_or]
      intro hb
      have h1 := h oj hj _ (Array.getElem_mem hk) hb
      refine ⟨fun e => ?_, by simp [hc.waits hi f _ fun oj' hj' => hc.h _ oj' hj' h1]⟩
      rw [e, getD_both hi] at h1
      cases h1
    · rfl
theorem Closed.set {l : Array Bool} (hc : Closed md ops l) {j : Nat} (hj : j ∈ Region.ready md ops l) : Closed md ops (l.setIfInBounds j true) := ⟨fun k ok hk hl e he hb => by
  obtain ⟨_, oj, hoj, hall⟩ := mem_ready.1 hj
  refine getD_set_true ?_
  by_cases hjk : j = k
  · subst hjk
    rw [hoj] at hk
    obtain rfl := Option.some.inj hk
    exact hall e he hb
  · rw [getD_set_ne false hjk] at hl
    exact hc.h k ok hk hl e he hb⟩
end

/-! Rows that are lent: for a while nothing is told of them but that they stand. -/
mutual
/-- It leads into rows rs alone. -/
def onlyR (rs : List Nat) : A → Bool
  | .vw r _ _ => rs.contains r
  | .pt r _ _ => rs.contains r
  | .agg xs => onlyRL rs xs
  | .tup xs => onlyRL rs xs
  | .clo _ xs => onlyRL rs xs
  | .un => true
  | .sc _ => true
  | .nil => true
  | .sl _ _ _ => true
  | .rp _ => true
  | .bx _ => true
def onlyRL (rs : List Nat) : List A → Bool
  | [] => true
  | x :: xs => onlyR rs x && onlyRL rs xs
end
theorem onlyRL_eq (rs : List Nat) : ∀ xs : List A, onlyRL rs xs = xs.all (onlyR rs)
  | [] => rfl
  | x :: xs => by rw [onlyRL, onlyRL_eq rs xs, List.all_cons]
theorem TRel.on {w w' : World} {G G' : Nat → Prop} {rows rows' : List (Option Row)} {gs gs' : Gh} {rs : List Nat} (hG : ∀ b, G b → G' b ∧ w'.heap[b]? = w.heap[b]?) (hR : ∀ r ∈ rs, RowLe w w' rows rows' gs gs' r)
    {x : A} {v : Value} {F : List Nat} (h : TRel w G rows gs x v F) (ho : onlyR rs x = true) (hF : ∀ b ∈ F, w'.heap[b]? = w.heap[b]?) : TRel w' G' rows' gs' x v F := by
  refine TRel.rec (motive_1 := fun x v F _ => onlyR rs x = true → (∀ b ∈ F, w'.heap[b]? = w.heap[b]?) → TRel w' G' rows' gs' x v F)
    (motive_2 := fun xs vs F _ => xs.all (onlyR rs) = true → (∀ b ∈ F, w'.heap[b]? = w.heap[b]?) → TRelL w' G' rows' gs' xs vs F) ?_ ?_ ?_ ?_ ?_ ?_ ?_ ?_ ?_ ?_ h ho hF
  · intros; exact .un
  · intro x v F h _ hF; exact .of (h.move_ hG hF)
  · intro r off len k cap b row cur e hr hob hl hh hs hm hc hk ho _
    obtain ⟨row', hr', hg, hn, hx, hb⟩ := (hR r (by simpa [onlyR] using ho)).le row hr
    obtain ⟨cur', e', hh', hs'⟩ := hb b cur e hob hh
    exact .vw hr' (by rw [hg]; exact hob) (by omega) hh' (by rw [hs', hs, hn]) hm (by omega) (by rw [hn]; exact hk)
  · intro r row hr hob hxs ho _
    obtain ⟨row', hr', hg, hn, hx, hb⟩ := (hR r (by simpa [onlyR] using ho)).le row hr
    exact .vwn hr' (by rw [hg]; exact hob) (by rw [hxs] at hx; exact List.eq_nil_of_length_eq_zero hx)
  · intro r j o k b row hr hob hk ho _
    obtain ⟨row', hr', hg, hn, hx, hb⟩ := (hR r (by simpa [onlyR] using ho)).le row hr
    exact .pt hr' (by rw [hg]; exact hob) (by rw [hn]; exact hk)
  · intro xs cs F hl ih ho hF; exact .agg (ih (by rw [← onlyRL_eq]; simpa [onlyR] using ho) hF)
  · intro xs cs F hl ih ho hF; exact .tup (ih (by rw [← onlyRL_eq]; simpa [onlyR] using ho) hF)
  · intro g caps cs F hl ih ho hF; exact .clo (ih (by rw [← onlyRL_eq]; simpa [onlyR] using ho) hF)
  · intro _ _; exact .nil
  · intro x v F xs vs Fs h hl ih ih' ho hF
    rw [List.all_cons, Bool.and_eq_true] at ho
    exact .cons (ih ho.1 fun b hb => hF b (by simp [hb])) (ih' ho.2 fun b hb => hF b (by simp [hb]))
theorem TRelL.on {w w' : World} {G G' : Nat → Prop} {rows rows' : List (Option Row)} {gs gs' : Gh} {rs : List Nat} (hG : ∀ b, G b → G' b ∧ w'.heap[b]? = w.heap[b]?) (hR : ∀ r ∈ rs, RowLe w w' rows rows' gs gs' r) :
    ∀ {xs : List A} {vs : List Value} {F : List Nat}, TRelL w G rows gs xs vs F → xs.all (onlyR rs) = true → (∀ b ∈ F, w'.heap[b]? = w.heap[b]?) → TRelL w' G' rows' gs' xs vs F
  | _, _, _, .nil, _, _ => .nil
  | _, _, _, .cons h hl, ho, hF => by
    rw [List.all_cons, Bool.and_eq_true] at ho
    exact .cons (h.on hG hR ho.1 fun b hb => hF b (by simp [hb])) (hl.on hG hR ho.2 fun b hb => hF b (by simp [hb]))
def rowOnly (rs : List Nat) (row : Row) : Bool := !row.lk || (flat row.xs).all (onlyR rs)
theorem RowRel.on {w w' : World} {G G' : Nat → Prop} {rows rows' : List (Option Row)} {gs gs' : Gh} {rs : List Nat} (hG : ∀ b, G b → G' b ∧ w'.heap[b]? = w.heap[b]?) (hR : ∀ r ∈ rs, RowLe w w' rows rows' gs gs' r)
    {row : Row} {ob : Option Nat} {F : List Nat} (h : RowRel w G rows gs row ob F) (ho : rowOnly rs row = true) (hF : ∀ b ∈ ob.toList ++ F, w'.heap[b]? = w.heap[b]?) : RowRel w' G' rows' gs' row ob F := by
  cases ob with
  | none => exact h
  | some b =>
    obtain ⟨cur, e, cap, h1, h2, h3, h4, h5, h6, h7⟩ := h.ex
    have hF' : ∀ c ∈ F, w'.heap[c]? = w.heap[c]? := fun c hc => hF c (by simp [hc])
    refine ⟨cur, e, cap, by rw [hF b (by simp)]; exact h1, h2, h3, h4, h5, h6, ?_⟩
    unfold CellsRel at h7 ⊢
    split
    · rename_i hl
      rw [if_pos hl] at h7
      exact h7.on hG hR (by simpa [rowOnly, hl] using ho) hF'
    · rename_i hl
      rw [if_neg hl] at h7
      exact h7.move_ hG hF'

def State.turns : List Nat → State → State
  | [], S => S
  | r :: rs, S => State.turns rs (S.turn r none)
section
variable {P : Program} {T : Nat → Option TI} {E : Env P} {G : Nat → Prop} {gs : Gh} {S : State} {a : Act} {w : World} {tmps : Array Value}
theorem Inv.turns : ∀ (rs : List Nat) {S : State} {gs : Gh}, Inv E G gs S tmps w → rs.Nodup → (∀ r ∈ rs, ∃ row, rowAt S.rows r = some row) →
    ∃ gs', Inv E G gs' (S.turns rs) tmps w ∧ (∀ r, r ∉ rs → gs' r = gs r) ∧ ∀ r ∈ rs, rowAt (S.turns rs).rows r = none
  | [], S, gs, hi, _, _ => ⟨gs, hi, fun _ _ => rfl, by simp⟩
  | q :: rs, S, gs, hi, hnd, hr => by
    obtain ⟨row, hq⟩ := hr q (by simp)
    rw [List.nodup_cons] at hnd
    have h1 := hi.turn (x := none) (ob := none) (F := []) hq rfl rfl rfl (Nat.le_refl _) (fun _ _ _ => rfl) (by simp) (by simp) (by simp) (by simp)
    obtain ⟨gs', h2, h3, h4⟩ := Inv.turns rs h1 hnd.2 (fun r hrr => by
      obtain ⟨row', h⟩ := hr r (by simp [hrr])
      refine ⟨killRow q row', ?_⟩
      rw [rowAt_turn hq, if_neg (fun e => hnd.1 (by rw [← e]; exact hrr)), h]; rfl)
    have keepNone : ∀ (rs : List Nat) (S : State), rowAt S.rows q = none → rowAt (S.turns rs).rows q = none := by
      intro rs
      induction rs with
      | nil => intro S h; exact h
      | cons r rs ih =>
        intro S h
        refine ih _ ?_
        show rowAt ((killRows r S.rows).set r none) q = none
        by_cases hlt : r < (killRows r S.rows).length
        · rw [rowAt_set _ _ _ _ hlt]
          split
          · rfl
          · rw [rowAt_killRows, h]; rfl
        · rw [List.set_eq_of_length_le (by omega), rowAt_killRows, h]; rfl
    refine ⟨gs', h2, fun r hrn => ?_, fun r hrr => ?_⟩
    · rw [h3 r (fun h => hrn (by simp [h]))]
      simp only [Gh.add]
      rw [if_neg fun e => hrn (by simp [e])]
    · rcases List.mem_cons.1 hrr with rfl | h
      · refine keepNone rs _ ?_
        rw [rowAt_turn hq, if_pos rfl]
      · exact h4 r h
def AgreeR (G : Nat → Prop) (gs : Gh) (rs : List Nat) (w w' : World) : Prop := ∀ b, (G b ∨ ∃ r ∈ rs, b ∈ gs.all r) → w'.heap[b]? = w.heap[b]?
end
end Go.Fw

/- Regions that draw their order, in which some operations read rows that others leave alone: what is read, and the rule. Plain theorems, no condition. -/
set_option linter.unusedVariables false
set_option linter.unusedSimpArgs false
namespace Go.Fw
section
variable {P : Program} {T : Nat → Option TI} {S : State} {o : Oper} {rs : List Nat}
/-- The operation yields a value told by x, the same one as long as what may be read, and rows rs, stand. -/
def VOR (P : Program) (o : Oper) (S : State) (rs : List Nat) (x : A) : Prop :=
  ∀ (E : Env P) (G : Nat → Prop) (gs : Gh) (a : Act) (w : World), Inv E G gs S a.tmps w →
    ∃ v, (∀ w', AgreeR G gs rs w w' → (execOp a.eval o).run P w' = .ok (.value v) w') ∧ TRel w G S.rows gs x v []
theorem VOG.r {x : A} (h : VOG P o S x) : VOR P o S rs x := fun E G gs a w hi => by
  obtain ⟨v, h1, h2⟩ := h E G gs a w hi
  exact ⟨v, fun w' hw' => h1 w' fun b hb => hw' b (.inl hb), h2⟩
variable {ops : List Oper} {Q : Exit → Act → World → Prop} {kp : Nat → Bool} {Sc : World → Prop}
theorem put_rows (S : State) (d : Option Nat) (z : A) : (S.put d z).rows = S.rows := by
  cases d with
  | none => rfl
  | some d => simp only [State.put]; split <;> rfl
end
end Go.Fw

/- Calls that write into one box of plain data and hand back something of which a relation speaks. Plain theorems, no condition. -/
set_option linter.unusedVariables false
set_option linter.unusedSimpArgs false
namespace Go.Fw
section
variable {P : Program} {T : Nat → Option TI} {S : State} {Ω : Opq}
/-- Rows from n on are not asked for any more. -/
def cutT (n : Nat) (t : List (Nat × A)) : List (Nat × A) := t.map fun p => (p.1, if onlyR (List.range n) p.2 then p.2 else .un)
theorem lk_cutT (n : Nat) : ∀ (t : List (Nat × A)) (i : Nat), lk (cutT n t) i = if onlyR (List.range n) (lk t i) then lk t i else .un
  | [], i => by simp [cutT, lk, onlyR]
  | (k, x) :: l, i => by
    have ih := lk_cutT n l i
    simp only [cutT] at ih
    simp only [cutT, List.map_cons, lk]
    split
    · rfl
    · exact ih
def rowsOnly (n : Nat) : List (Option Row) → Bool
  | [] => true
  | none :: l => rowsOnly n l
  | some row :: l => rowOnly (List.range n) row && rowsOnly n l
theorem rowsOnly_at {n : Nat} : ∀ {l : List (Option Row)} {r : Nat} {row : Row}, rowsOnly n l = true → rowAt l r = some row → rowOnly (List.range n) row = true
  | [], r, row, _, h => by simp [rowAt] at h
  | none :: l, 0, row, _, h => by simp [rowAt] at h
  | some row' :: l, 0, row, h1, h => by
    simp [rowAt] at h
    subst h
    simp only [rowsOnly, Bool.and_eq_true] at h1
    exact h1.1
  | none :: l, r + 1, row, h1, h => rowsOnly_at (l := l) (r := r) h1 (by simpa [rowAt] using h)
  | some row' :: l, r + 1, row, h1, h => by
    simp only [rowsOnly, Bool.and_eq_true] at h1
    exact rowsOnly_at (l := l) (r := r) h1.2 (by simpa [rowAt] using h)
theorem rowAt_take {l : List (Option Row)} {n r : Nat} : rowAt (l.take n) r = if r < n then rowAt l r else none := by
  unfold rowAt
  rw [List.getElem?_take]
  split <;> rfl
theorem Sbs.cut (n : Nat) (h : rowsOnly n (S.rows.take n) = true) : Sbs S ⟨cutT n S.t, S.N, S.rows.take n⟩ := by
  intro P E a w ⟨hd, G, gs, hi⟩
  have hrat : ∀ r row, rowAt (S.rows.take n) r = some row → rowAt S.rows r = some row := fun r row hr => by
    rw [rowAt_take] at hr
    split at hr
    · exact hr
    · cases hr
  have hle : ∀ r ∈ List.range n, RowLe w w S.rows (S.rows.take n) gs gs r := fun r hr => RowLe.refl_of fun row hrw => by
    rw [List.mem_range] at hr
    exact ⟨by rw [rowAt_take, if_pos hr]; exact hrw, rfl, fun _ _ => rfl⟩
  refine ⟨hd, G, gs, hi.keep, hi.os, hi.tape, hi.output, hi.size, hi.sz, hi.gsub, hi.gnew, hi.glt, fun r row hr => ?_, fun r row hr => hi.nod r row (hrat r row hr), fun r row hr => hi.own r row (hrat r row hr),
    fun r r' row row' hr hr' => hi.dis r r' row row' (hrat r row hr) (hrat r' row' hr'), fun i => ?_⟩
  · exact (hi.row r row (hrat r row hr)).on (fun b hb => ⟨hb, rfl⟩) hle (rowsOnly_at h hr) fun _ _ => rfl
  · show TRel w G (S.rows.take n) gs (lk (cutT n S.t) i) _ []
    rw [lk_cutT]
    split
    · rename_i ho
      exact (hi.tmp i).on (fun b hb => ⟨hb, rfl⟩) hle ho (by simp)
    · exact .un
/-! An own row of data, from now on only read. -/
mutual
def thaw (r n : Nat) (xs : List A) : A → A
  | .vw r' off len => if r' = r then .sl false n ((xs.drop off).take len) else .vw r' off len
  | .pt r' j o => if r' = r then .rp ((flat xs).drop (j * n + o)) else .pt r' j o
  | .agg ys => .agg (thawL r n xs ys)
  | .tup ys => .tup (thawL r n xs ys)
  | .clo g ys => .clo g (thawL r n xs ys)
  | .un => .un
  | .sc v => .sc v
  | .nil => .nil
  | .sl o m ys => .sl o m ys
  | .rp ys => .rp ys
  | .bx ys => .bx ys
def thawL (r n : Nat) (xs : List A) : List A → List A
  | [] => []
  | y :: ys => thaw r n xs y :: thawL r n xs ys
end
theorem thawL_eq (r n : Nat) (xs : List A) : ∀ ys : List A, thawL r n xs ys = ys.map (thaw r n xs)
  | [] => rfl
  | y :: ys => by rw [thawL, thawL_eq r n xs ys]; rfl
theorem thaw_agg (r n : Nat) (xs ys : List A) : thaw r n xs (.agg ys) = .agg (ys.map (thaw r n xs)) := by rw [thaw, thawL_eq]
theorem thaw_tup (r n : Nat) (xs ys : List A) : thaw r n xs (.tup ys) = .tup (ys.map (thaw r n xs)) := by rw [thaw, thawL_eq]
theorem thaw_clo (r n g : Nat) (xs ys : List A) : thaw r n xs (.clo g ys) = .clo g (ys.map (thaw r n xs)) := by rw [thaw, thawL_eq]
theorem Rel.thaw {w : World} {G : Nat → Prop} {x : A} {v : Value} {F : List Nat} (h : Rel w G x v F) (r n : Nat) (xs : List A) : Fw.thaw r n xs x = x := by
  refine Rel.rec (motive_1 := fun x v F _ => Fw.thaw r n xs x = x) (motive_2 := fun ys vs F _ => ys.map (Fw.thaw r n xs) = ys)
    ?_ ?_ ?_ ?_ ?_ ?_ ?_ ?_ ?_ ?_ ?_ ?_ ?_ ?_ h
  · intros; rw [Fw.thaw]
  · intros; rw [Fw.thaw]
  · intros; rw [Fw.thaw]
  · intros; rw [Fw.thaw]
  · intros; rw [Fw.thaw]
  · intros; rw [Fw.thaw]
  · intros; rw [Fw.thaw]
  · intro xs cs F hl ih; rw [thaw_agg, ih]
  · intro xs cs F hl ih; rw [thaw_tup, ih]
  · intros; rw [Fw.thaw]
  · intros; rw [Fw.thaw]
  · intro g caps cs F hl ih; rw [thaw_clo, ih]
  · rfl
  · intro x v F xs vs Fs h hl ih ih'; rw [List.map_cons, ih, ih']
/-- What is known of a row whose blocks are G's from now on. -/
structure Thawed (w : World) (G G' : Nat → Prop) (rows rows' : List (Option Row)) (gs gs' : Gh) (r : Nat) (row : Row) (ys : List A) : Prop where
  sub : ∀ b, G b → G' b
  ro : ∀ b, (gs r).1 = some b → G' b
  ob : RowRel w G' rows gs { row with xs := ys } (gs r).1 []
  len : ys.length = row.xs.length
  lk : row.lk = false
  at_ : rowAt rows r = some row
  other : ∀ q row', q ≠ r → rowAt rows q = some row' → rowAt rows' q = some row' ∨ ∃ row2, rowAt rows' q = some row2 ∧ row2.n = row'.n ∧ row2.xs.length = row'.xs.length
  gsq : ∀ q, q ≠ r → gs' q = gs q
theorem TRel.thaw {w : World} {G G' : Nat → Prop} {rows rows' : List (Option Row)} {gs gs' : Gh} {r : Nat} {row : Row} {ys : List A} (ht : Thawed w G G' rows rows' gs gs' r row ys) {x : A} {v : Value} {F : List Nat} (h : TRel w G rows gs x v F) :
    TRel w G' rows' gs' (Fw.thaw r row.n ys x) v F := by
  refine TRel.rec (motive_1 := fun x v F _ => TRel w G' rows' gs' (Fw.thaw r row.n ys x) v F) (motive_2 := fun xs vs F _ => TRelL w G' rows' gs' (xs.map (Fw.thaw r row.n ys)) vs F) ?_ ?_ ?_ ?_ ?_ ?_ ?_ ?_ ?_ ?_ h
  · intros; rw [Fw.thaw]; exact .un
  · intro x v F h; rw [h.thaw]; exact .of (h.move_ (fun b hb => ⟨ht.sub b hb, rfl⟩) fun _ _ => rfl)
  · intro q off len k cap c row' cur e h1 h2 h3 h4 h5 h6 h7 h8
    rw [Fw.thaw]
    split
    · rename_i hq
      subst hq
      rw [ht.at_] at h1
      obtain rfl := Option.some.inj h1
      have hob := ht.ob
      rw [h2] at hob
      obtain ⟨cur', e', cap', g1, g2, g3, g4, g5, g6, g7⟩ := RowCells.ex hob
      rw [h4] at g1
      obtain ⟨rfl, -, -⟩ : cur = cur' ∧ e = e' ∧ True := by simpa using g1
      unfold CellsRel at g7
      dsimp only at g3 g5 g6 g7
      rw [if_neg (by rw [ht.lk]; simp)] at g7
      have hwd : ∀ x ∈ ys, x.width = row.n := g5
      have hlen : ys.length = row.xs.length := ht.len
      have hl2 : (ys.drop off).take len = (ys.take (off + len)).drop off := by rw [List.drop_take]; congr 1; omega
      have h9 := (g7.take0 ((off + len) * row.n)).drop0 (off * row.n)
      rw [flat_take (off + len) hwd, flat_drop off (fun x hx => hwd x (List.mem_of_mem_take hx)), ← hl2] at h9
      have e9 : List.drop (off * row.n) (List.take ((off + len) * row.n) (List.take (ys.length * row.n) cur.toList)) = (cur.toList.drop (off * row.n)).take (len * row.n) := by
        have hle : (off + len) * row.n ≤ ys.length * row.n := Nat.mul_le_mul_right _ (by rw [hlen]; exact h3)
        rw [List.take_take, Nat.min_eq_left hle, List.drop_take, Nat.add_mul, Nat.add_sub_cancel_left]
      rw [e9] at h9
      have hll : len = ((ys.drop off).take len).length := by simp; omega
      refine .of (.ro h4 (ht.ro c h2) (fun x hx => hwd x (List.mem_of_mem_drop (List.mem_of_mem_take hx))) hll rfl ?_ (by omega) (by omega))
      rcases h8 with rfl | ⟨h8, _⟩
      · exact h9
      · have h0 : len = 0 := by omega
        subst h0
        simpa [flat] using RelL.nil
    · rename_i hq
      rcases ht.other q row' hq h1 with h9 | ⟨row2, h9, h10, h11⟩
      · exact .vw h9 (by rw [ht.gsq q hq]; exact h2) h3 h4 h5 h6 h7 h8
      · exact .vw h9 (by rw [ht.gsq q hq]; exact h2) (by omega) h4 (by rw [h10]; exact h5) h6 (by omega) (by rw [h10]; exact h8)
  · intro q row' h1 h2 h3
    rw [Fw.thaw]
    split
    · simpa using TRel.of Rel.nils
    · rename_i hq
      rcases ht.other q row' hq h1 with h9 | ⟨row2, h9, h10, h11⟩
      · exact .vwn h9 (by rw [ht.gsq q hq]; exact h2) h3
      · exact .vwn h9 (by rw [ht.gsq q hq]; exact h2) (List.eq_nil_of_length_eq_zero (by rw [h11, h3]; rfl))
  · intro q j o k c row' h1 h2 h3
    rw [Fw.thaw]
    split
    · rename_i hq
      subst hq
      rw [ht.at_] at h1
      obtain rfl := Option.some.inj h1
      have hob := ht.ob
      rw [h2] at hob
      obtain ⟨cur', e', cap', g1, g2, g3, g4, g5, g6, g7⟩ := RowCells.ex hob
      unfold CellsRel at g7
      dsimp only at g3 g5 g6 g7
      rw [if_neg (by rw [ht.lk]; simp)] at g7
      have h9 := g7.drop0 (j * row.n + o)
      have hfl := flat_length (n := row.n) (xs := ys) g5
      subst h3
      refine .of (.rp g1 (ht.ro c h2) rfl ?_)
      rw [List.length_drop, hfl, ← List.drop_take]
      exact h9
    · rename_i hq
      rcases ht.other q row' hq h1 with h9 | ⟨row2, h9, h10, h11⟩
      · exact .pt h9 (by rw [ht.gsq q hq]; exact h2) h3
      · exact .pt h9 (by rw [ht.gsq q hq]; exact h2) (by rw [h10]; exact h3)
  · intro xs cs F hl ih; rw [thaw_agg]; exact .agg ih
  · intro xs cs F hl ih; rw [thaw_tup]; exact .tup ih
  · intro g caps cs F hl ih; rw [thaw_clo]; exact .clo ih
  · exact .nil
  · intro x v F xs vs Fs h hl ih ih'; exact .cons ih ih'
def thawRow (r n : Nat) (xs : List A) (row : Row) : Row := if row.lk then { row with xs := row.xs.map (thaw r n xs) } else row
def thawT (r n : Nat) (xs : List A) (t : List (Nat × A)) : List (Nat × A) := t.map fun p => (p.1, thaw r n xs p.2)
theorem lk_thawT (r n : Nat) (xs : List A) : ∀ (t : List (Nat × A)) (i : Nat), lk (thawT r n xs t) i = thaw r n xs (lk t i)
  | [], i => by show A.un = thaw r n xs .un; rw [thaw]
  | (k, x) :: l, i => by
    have ih := lk_thawT r n xs l i
    simp only [thawT] at ih
    simp only [thawT, List.map_cons, lk]
    split
    · rfl
    · exact ih
theorem thaw_cells (r n : Nat) (xs : List A) (x : A) : (thaw r n xs x).cells = x.cells.map (thaw r n xs) := by
  have e1 : ∀ q o l, (if q = r then A.sl false n ((xs.drop o).take l) else A.vw q o l).cells = [if q = r then A.sl false n ((xs.drop o).take l) else A.vw q o l] := fun q o l => by split <;> rfl
  have e2 : ∀ q o l, (if q = r then A.rp ((flat xs).drop (o * n + l)) else A.pt q o l).cells = [if q = r then A.rp ((flat xs).drop (o * n + l)) else A.pt q o l] := fun q o l => by split <;> rfl
  cases x with
  | vw q o l => simp only [A.cells, List.map_cons, List.map_nil, thaw, e1]; exact e1 q o l
  | pt q o l => simp only [A.cells, List.map_cons, List.map_nil, thaw, e2]; exact e2 q o l
  | _ => simp only [thaw, thawL_eq, A.cells, List.map_cons, List.map_nil]
theorem thaw_width (r n : Nat) (xs : List A) (x : A) : (thaw r n xs x).width = x.width := by simp [A.width, thaw_cells]
theorem thaw_flat (r n : Nat) (xs ys : List A) : flat (ys.map (thaw r n xs)) = (flat ys).map (thaw r n xs) := by
  induction ys with
  | nil => rfl
  | cons x ys ih => simp only [flat, List.map_cons, List.flatMap_cons, List.map_append] at *; rw [ih, thaw_cells]
def State.thaw (S : State) (r n : Nat) (ys : List A) : State := ⟨thawT r n ys S.t, S.N, (S.rows.map (Option.map (thawRow r n ys))).set r none⟩
/-- An own row of data is only read from now on: what led into it tells what it holds. -/
theorem Sbs.thawY {r : Nat} {row : Row} {ys : List A} (hr : rowAt S.rows r = some row) (hlk : row.lk = false) (hyl : ys.length = row.xs.length)
    (hys : (∀ x ∈ row.xs, x.width = row.n) → (∀ x ∈ ys, x.width = row.n))
    (hre : ∀ (w : World) (G G' : Nat → Prop) (vs : List Value) (F : List Nat), RelL w G (flat row.xs) vs F → (∀ b, G b → G' b) → (∀ b ∈ F, G' b) → RelL w G' (flat ys) vs []) : Sbs S (S.thaw r row.n ys) := by
  intro P E ac w ⟨hd, G, gs, hi⟩
  have hal := rowAt_lt hr
  have hrat : ∀ q, rowAt (S.thaw r row.n ys).rows q = if q = r then none else (rowAt S.rows q).map (thawRow r row.n ys) := fun q => by
    show rowAt ((S.rows.map (Option.map (thawRow r row.n ys))).set r none) q = _
    rw [rowAt_set _ _ _ _ (by simpa using hal)]
    split
    · rfl
    · simp only [rowAt, List.getElem?_map]
      cases h : S.rows[q]? with
      | none => rfl
      | some o => cases o <;> rfl
  have hGsub : ∀ b, G b → G b ∨ b ∈ gs.all r := fun b h => .inl h
  have hob : RowRel w (fun b => G b ∨ b ∈ gs.all r) S.rows gs { row with xs := ys } (gs r).1 [] := by
    have h := hi.row r row hr
    have hin2 : ∀ b ∈ (gs r).2, b ∈ gs.all r := fun b hb => by simp [Gh.all, hb]
    generalize (gs r).1 = ob at h
    generalize (gs r).2 = F at h hin2
    cases ob with
    | none => exact ⟨List.eq_nil_of_length_eq_zero (by rw [hyl, h.1]; rfl), rfl⟩
    | some b =>
      obtain ⟨cur, e, cap, h1, h2, h3, h4, h5, h6, h7⟩ := RowCells.ex h
      refine ⟨cur, e, cap, h1, h2, by dsimp only; rw [hyl]; exact h3, h4, hys h5, by dsimp only; rw [hyl]; exact h6, ?_⟩
      · unfold CellsRel at h7 ⊢
        dsimp only
        rw [if_neg (by rw [hlk]; simp)] at h7 ⊢
        rw [hyl]
        exact hre w G (fun b => G b ∨ b ∈ gs.all r) _ _ h7 hGsub (fun b hb => .inr (hin2 b hb))
  have ht : Thawed w G (fun b => G b ∨ b ∈ gs.all r) S.rows (S.thaw r row.n ys).rows gs (gs.add r none []) r row ys := by
    refine ⟨hGsub, fun b hb => .inr (by simp [Gh.all, hb]), hob, hyl, hlk, hr, fun q row' hq hq2 => ?_, fun q hq => by simp [Gh.add, hq]⟩
    rw [hrat, if_neg hq, hq2]
    refine .inr ⟨_, rfl, ?_, ?_⟩ <;> unfold thawRow <;> split <;> simp
  have hgs : ∀ q, q ≠ r → (gs.add r none []) q = gs q := fun q hq => by simp [Gh.add, hq]
  have hall : ∀ q, q ≠ r → (gs.add r none []).all q = gs.all q := fun q hq => by simp only [Gh.all, hgs q hq]
  have hcase : ∀ q row', rowAt (S.thaw r row.n ys).rows q = some row' → q ≠ r ∧ ∃ row0, rowAt S.rows q = some row0 ∧ row' = thawRow r row.n ys row0 := fun q row' h => by
    rw [hrat] at h
    split at h
    · cases h
    · rename_i hq
      obtain ⟨row0, q1, q2⟩ := Option.map_eq_some_iff.1 h
      exact ⟨hq, row0, q1, q2.symm⟩
  refine ⟨hd, fun b => G b ∨ b ∈ gs.all r, gs.add r none [], hi.keep, hi.os, hi.tape, hi.output, hi.size, hi.sz, fun b hb => .inl (hi.gsub b hb), fun b hb => ?_, hi.glt.move (fun b h => .inl h) (fun _ _ => rfl) (fun b hb => ?_), fun q row' hq => ?_, fun q row' hq => ?_, fun q row' hq b hb => ?_, fun q q' row' row'' hq hq' hne => ?_, fun i => ?_⟩
  · rcases hb with hb | hb
    · exact hi.gnew b hb
    · exact .inr (hi.own r row hr b hb).2
  · rcases hb with hb | hb
    · exact hi.glt b hb
    · exact hi.block_lt hr b hb
  · obtain ⟨hqr, row0, h0, rfl⟩ := hcase q row' hq
    have hrow := hi.row q row0 h0
    rw [hgs q hqr]
    generalize (gs q).1 = ob at hrow
    cases ob with
    | none =>
      obtain ⟨q1, q2⟩ := hrow
      refine ⟨?_, q2⟩
      unfold thawRow
      split <;> simp [q1]
    | some c =>
      obtain ⟨cur, ee, cap, h1, h2, h3, h4, h5, h6, h7⟩ := RowCells.ex hrow
      unfold CellsRel at h7
      by_cases hl : row0.lk = true
      · have e1 : thawRow r row.n ys row0 = { row0 with xs := row0.xs.map (Fw.thaw r row.n ys) } := by unfold thawRow; rw [if_pos hl]
        rw [e1]
        refine ⟨cur, ee, cap, h1, h2, by simpa using h3, h4, ?_, by simpa using h6, ?_⟩
        · intro x hx
          obtain ⟨y, hy, rfl⟩ := List.mem_map.1 hx
          rw [thaw_width]; exact h5 y hy
        · unfold CellsRel
          rw [if_pos hl] at h7
          show if row0.lk = true then _ else _
          rw [if_pos hl, thaw_flat]
          have : ∀ {xs : List A} {vs : List Value} {F : List Nat}, TRelL w G S.rows gs xs vs F → TRelL w (fun b => G b ∨ b ∈ gs.all r) (S.thaw r row.n ys).rows (gs.add r none []) (xs.map (Fw.thaw r row.n ys)) vs F := by
            intro xs vs F h
            induction xs generalizing vs F with
            | nil => cases h; exact .nil
            | cons x xs ih => cases h with | cons h hl => exact .cons (h.thaw ht) (ih hl)
          simpa using this h7
      · have e1 : thawRow r row.n ys row0 = row0 := by unfold thawRow; rw [if_neg hl]
        rw [e1]
        refine ⟨cur, ee, cap, h1, h2, h3, h4, h5, h6, ?_⟩
        unfold CellsRel
        rw [if_neg hl] at h7 ⊢
        exact h7.move_ (fun b hb => ⟨.inl hb, rfl⟩) fun _ _ => rfl
  · obtain ⟨hqr, row0, h0, rfl⟩ := hcase q row' hq
    rw [hall q hqr]; exact hi.nod q row0 h0
  · obtain ⟨hqr, row0, h0, rfl⟩ := hcase q row' hq
    rw [hall q hqr] at hb
    obtain ⟨q1, q2⟩ := hi.own q row0 h0 b hb
    exact ⟨fun h => h.elim q1 fun h => hi.dis q r row0 row h0 hr hqr b hb h, q2⟩
  · obtain ⟨hqr, row0, h0, rfl⟩ := hcase q row' hq
    obtain ⟨hqr', row1, h1, rfl⟩ := hcase q' row'' hq'
    rw [hall q hqr, hall q' hqr']
    exact hi.dis q q' row0 row1 h0 h1 hne
  · show TRel w _ (S.thaw r row.n ys).rows _ (lk (thawT r row.n ys S.t) i) _ []
    rw [lk_thawT]
    exact (hi.tmp i).thaw ht
/-- The same with what is held alone frozen. -/
theorem Sbs.thaw {r : Nat} {row : Row} (hr : rowAt S.rows r = some row) (hlk : row.lk = false) : Sbs S (S.thaw r row.n (row.xs.map frz)) :=
  Sbs.thawY hr hlk (by simp) (fun h x hx => by obtain ⟨y, hy, rfl⟩ := List.mem_map.1 hx; rw [width_frz]; exact h y hy) fun w G G' vs F h h1 h2 => by rw [flat_frz]; exact RelL.frz h h1 h2
/-- The same where nothing is held alone. -/
theorem Sbs.thaw0 {r : Nat} {row : Row} (hr : rowAt S.rows r = some row) (hlk : row.lk = false) (hno : (flat row.xs).all noOwn = true) : Sbs S (S.thaw r row.n row.xs) :=
  Sbs.thawY hr hlk rfl (fun h => h) fun w G G' vs F h h1 h2 => by
    obtain rfl := h.noOwn hno
    exact RelL.move_ (fun b hb => ⟨h1 b hb, rfl⟩) h (fun _ _ => rfl)
/-- A box of data is told as a row of data. -/
theorem Sbs.unlk {r : Nat} {row : Row} (hr : rowAt S.rows r = some row) (hd : (flat row.xs).all isData = true) : Sbs S (S.setRow r { row with lk := false }) := by
  intro P E ac w ⟨hd', G, gs, hi⟩
  have hal := rowAt_lt hr
  have hrat : ∀ q, rowAt (S.setRow r { row with lk := false }).rows q = if q = r then some { row with lk := false } else rowAt S.rows q := fun q => rowAt_setRow hr
  have hle : ∀ q, RowLe w w S.rows (S.setRow r { row with lk := false }).rows gs gs q := fun q => ⟨fun row' h => by
    rw [hrat]
    split
    · rename_i e; subst e; rw [hr] at h; obtain rfl := Option.some.inj h; exact ⟨_, rfl, rfl, rfl, rfl, fun b cur e h1 h2 => ⟨cur, e, h2, rfl⟩⟩
    · exact ⟨_, h, rfl, rfl, rfl, fun b cur e h1 h2 => ⟨cur, e, h2, rfl⟩⟩⟩
  have hold : ∀ q row', rowAt (S.setRow r { row with lk := false }).rows q = some row' → ∃ row0, rowAt S.rows q = some row0 := fun q row' h => by
    rw [hrat] at h
    split at h
    · rename_i e; subst e; exact ⟨_, hr⟩
    · exact ⟨_, h⟩
  refine ⟨hd', G, gs, hi.keep, hi.os, hi.tape, hi.output, hi.size, hi.sz, hi.gsub, hi.gnew, hi.glt, fun q row' hq => ?_, fun q row' hq => ?_, fun q row' hq => ?_, fun q q' row' row'' hq hq' => ?_, fun i => (hi.tmp i).step (fun b hb => ⟨hb, rfl⟩) hle (by simp)⟩
  · rw [hrat] at hq
    split at hq
    · rename_i e
      subst e
      obtain rfl := Option.some.inj hq
      have h := hi.row q row hr
      generalize (gs q).1 = ob at h
      cases ob with
      | none => exact h
      | some b =>
        obtain ⟨cur, e, cap, h1, h2, h3, h4, h5, h6, h7⟩ := RowCells.ex h
        refine ⟨cur, e, cap, h1, h2, .of h3.le, h4, h5, h6, ?_⟩
        unfold CellsRel
        dsimp only
        rw [if_neg (by simp)]
        exact h7.t.data hd
    · exact (hi.row q row' hq).step (fun b hb => ⟨hb, rfl⟩) hle (fun _ _ => rfl)
  · obtain ⟨row0, h0⟩ := hold q row' hq
    exact hi.nod q row0 h0
  · obtain ⟨row0, h0⟩ := hold q row' hq
    exact hi.own q row0 h0
  · obtain ⟨row0, h0⟩ := hold q row' hq
    obtain ⟨row1, h1⟩ := hold q' row'' hq'
    exact hi.dis q q' row0 row1 h0 h1
/- Row a is told as row b from now on. -/
mutual
def ren (a b : Nat) : A → A
  | .vw r off len => if r = a then .vw b off len else .vw r off len
  | .pt r j o => if r = a then .pt b j o else .pt r j o
  | .agg xs => .agg (renL a b xs)
  | .tup xs => .tup (renL a b xs)
  | .clo g xs => .clo g (renL a b xs)
  | .un => .un
  | .sc v => .sc v
  | .nil => .nil
  | .sl o n xs => .sl o n xs
  | .rp xs => .rp xs
  | .bx xs => .bx xs
def renL (a b : Nat) : List A → List A
  | [] => []
  | x :: xs => ren a b x :: renL a b xs
end
theorem renL_eq (a b : Nat) : ∀ xs : List A, renL a b xs = xs.map (ren a b)
  | [] => rfl
  | x :: xs => by rw [renL, renL_eq a b xs]; rfl
theorem ren_agg (a b : Nat) (xs : List A) : ren a b (.agg xs) = .agg (xs.map (ren a b)) := by rw [ren, renL_eq]
theorem ren_tup (a b : Nat) (xs : List A) : ren a b (.tup xs) = .tup (xs.map (ren a b)) := by rw [ren, renL_eq]
theorem ren_clo (a b g : Nat) (xs : List A) : ren a b (.clo g xs) = .clo g (xs.map (ren a b)) := by rw [ren, renL_eq]
theorem Rel.ren {w : World} {G : Nat → Prop} {x : A} {v : Value} {F : List Nat} (h : Rel w G x v F) (a b : Nat) : Fw.ren a b x = x := by
  refine Rel.rec (motive_1 := fun x v F _ => Fw.ren a b x = x) (motive_2 := fun xs vs F _ => xs.map (Fw.ren a b) = xs)
    ?_ ?_ ?_ ?_ ?_ ?_ ?_ ?_ ?_ ?_ ?_ ?_ ?_ ?_ h
  · intros; rw [Fw.ren]
  · intros; rw [Fw.ren]
  · intros; rw [Fw.ren]
  · intros; rw [Fw.ren]
  · intros; rw [Fw.ren]
  · intros; rw [Fw.ren]
  · intros; rw [Fw.ren]
  · intro xs cs F hl ih; rw [ren_agg, ih]
  · intro xs cs F hl ih; rw [ren_tup, ih]
  · intros; rw [Fw.ren]
  · intros; rw [Fw.ren]
  · intro g caps cs F hl ih; rw [ren_clo, ih]
  · rfl
  · intro x v F xs vs Fs h hl ih ih'; rw [List.map_cons, ih, ih']
theorem TRel.ren {w : World} {G : Nat → Prop} {rows rows' : List (Option Row)} {gs gs' : Gh} {a b : Nat} (hr : ∀ r row, rowAt rows r = some row → ∃ row', rowAt rows' (if r = a then b else r) = some row' ∧ gs' (if r = a then b else r) = gs r ∧ row'.n = row.n ∧ row'.xs.length = row.xs.length)
    {x : A} {v : Value} {F : List Nat} (h : TRel w G rows gs x v F) : TRel w G rows' gs' (Fw.ren a b x) v F := by
  refine TRel.rec (motive_1 := fun x v F _ => TRel w G rows' gs' (Fw.ren a b x) v F) (motive_2 := fun xs vs F _ => TRelL w G rows' gs' (xs.map (Fw.ren a b)) vs F) ?_ ?_ ?_ ?_ ?_ ?_ ?_ ?_ ?_ ?_ h
  · intros; rw [Fw.ren]; exact .un
  · intro x v F h; rw [h.ren]; exact .of h
  · intro r off len k cap c row cur e h1 h2 h3 h4 h5 h6 h7 h8
    obtain ⟨row', q1, q2, q3, q4⟩ := hr r row h1
    have : Fw.ren a b (.vw r off len) = .vw (if r = a then b else r) off len := by rw [Fw.ren]; split <;> rfl
    rw [this]
    exact .vw q1 (by rw [q2]; exact h2) (by omega) h4 (by rw [h5, q3]) h6 (by omega) (by rw [q3]; exact h8)
  · intro r row h1 h2 h3
    obtain ⟨row', q1, q2, q3, q4⟩ := hr r row h1
    have : Fw.ren a b (.vw r 0 0) = .vw (if r = a then b else r) 0 0 := by rw [Fw.ren]; split <;> rfl
    rw [this]
    exact .vwn q1 (by rw [q2]; exact h2) (by rw [h3] at q4; exact List.eq_nil_of_length_eq_zero q4)
  · intro r j o k c row h1 h2 h3
    obtain ⟨row', q1, q2, q3, q4⟩ := hr r row h1
    have : Fw.ren a b (.pt r j o) = .pt (if r = a then b else r) j o := by rw [Fw.ren]; split <;> rfl
    rw [this]
    exact .pt q1 (by rw [q2]; exact h2) (by rw [q3]; exact h3)
  · intro xs cs F hl ih; rw [ren_agg]; exact .agg ih
  · intro xs cs F hl ih; rw [ren_tup]; exact .tup ih
  · intro g caps cs F hl ih; rw [ren_clo]; exact .clo ih
  · exact .nil
  · intro x v F xs vs Fs h hl ih ih'; exact .cons ih ih'
theorem TRelL.ren {w : World} {G : Nat → Prop} {rows rows' : List (Option Row)} {gs gs' : Gh} {a b : Nat} (hr : ∀ r row, rowAt rows r = some row → ∃ row', rowAt rows' (if r = a then b else r) = some row' ∧ gs' (if r = a then b else r) = gs r ∧ row'.n = row.n ∧ row'.xs.length = row.xs.length) :
    ∀ {xs : List A} {vs : List Value} {F : List Nat}, TRelL w G rows gs xs vs F → TRelL w G rows' gs' (xs.map (Fw.ren a b)) vs F
  | _, _, _, .nil => .nil
  | _, _, _, .cons h hl => .cons (h.ren hr) (hl.ren hr)
def renRow (a b : Nat) (row : Row) : Row := if row.lk then { row with xs := row.xs.map (ren a b) } else row
def renRows (a b : Nat) (rows : List (Option Row)) : List (Option Row) := rows.map (Option.map (renRow a b))
def renT (a b : Nat) (t : List (Nat × A)) : List (Nat × A) := t.map fun p => (p.1, ren a b p.2)
theorem lk_renT (a b : Nat) : ∀ (t : List (Nat × A)) (i : Nat), lk (renT a b t) i = ren a b (lk t i)
  | [], i => by show A.un = ren a b .un; rw [ren]
  | (k, x) :: l, i => by
    have ih := lk_renT a b l i
    simp only [renT] at ih
    simp only [renT, List.map_cons, lk]
    split
    · rfl
    · exact ih
theorem rowAt_renRows (a b : Nat) (rows : List (Option Row)) (i : Nat) : rowAt (renRows a b rows) i = (rowAt rows i).map (renRow a b) := by
  simp only [rowAt, renRows, List.getElem?_map]
  cases h : rows[i]? with
  | none => rfl
  | some o => cases o <;> rfl
theorem renRow_n (a b : Nat) (row : Row) : (renRow a b row).n = row.n := by unfold renRow; split <;> rfl
theorem renRow_len (a b : Nat) (row : Row) : (renRow a b row).xs.length = row.xs.length := by unfold renRow; split <;> simp
theorem ren_cells (a b : Nat) (x : A) : (ren a b x).cells = x.cells.map (ren a b) := by
  have e1 : ∀ r o l, ren a b (.vw r o l) = .vw (if r = a then b else r) o l := fun r o l => by rw [ren]; split <;> rfl
  have e2 : ∀ r o l, ren a b (.pt r o l) = .pt (if r = a then b else r) o l := fun r o l => by rw [ren]; split <;> rfl
  cases x with
  | vw r o l => simp only [A.cells, List.map_cons, List.map_nil, e1]
  | pt r o l => simp only [A.cells, List.map_cons, List.map_nil, e2]
  | _ => simp only [ren, renL_eq, A.cells, List.map_cons, List.map_nil]
theorem ren_width (a b : Nat) (x : A) : (ren a b x).width = x.width := by simp [A.width, ren_cells]
theorem ren_flat (a b : Nat) (xs : List A) : flat (xs.map (ren a b)) = (flat xs).map (ren a b) := by
  induction xs with
  | nil => rfl
  | cons x xs ih => simp only [flat, List.map_cons, List.flatMap_cons, List.map_append] at *; rw [ih, ren_cells]
/-- Row a becomes row b, where none stood. -/
def State.mv (S : State) (a b : Nat) : State := ⟨renT a b S.t, S.N, ((renRows a b S.rows).set b (((rowAt S.rows a).map (renRow a b)))).set a none⟩
theorem Sbs.mv {a b : Nat} {row : Row} (ha : rowAt S.rows a = some row) (hb : rowAt S.rows b = none) (hlt : b < S.rows.length) : Sbs S (S.mv a b) := by
  intro P E ac w ⟨hd, G, gs, hi⟩
  have hab : a ≠ b := fun e => by rw [e, hb] at ha; cases ha
  have hal := rowAt_lt ha
  have hlen : (renRows a b S.rows).length = S.rows.length := by simp [renRows]
  have hrat : ∀ r, rowAt (S.mv a b).rows r = if r = a then none else if r = b then (rowAt S.rows a).map (renRow a b) else (rowAt S.rows r).map (renRow a b) := fun r => by
    show rowAt (((renRows a b S.rows).set b _).set a none) r = _
    rw [rowAt_set _ _ _ _ (by rw [List.length_set, hlen]; exact hal)]
    split
    · rfl
    · rw [rowAt_set _ _ _ _ (by rw [hlen]; exact hlt)]
      split
      · rfl
      · rw [rowAt_renRows]
  have hcase : ∀ r row', rowAt (S.mv a b).rows r = some row' → ∃ r0 row0, rowAt S.rows r0 = some row0 ∧ row' = renRow a b row0 ∧ r = (if r0 = a then b else r0) ∧ r0 ≠ b ∧ r ≠ a := fun r row' h => by
    rw [hrat] at h
    split at h
    · cases h
    · rename_i h1
      split at h
      · rename_i h2
        rw [ha] at h
        exact ⟨a, row, ha, (Option.some.inj h).symm, by rw [if_pos rfl]; exact h2, hab, h1⟩
      · rename_i h2
        obtain ⟨row0, q1, q2⟩ := Option.map_eq_some_iff.1 h
        exact ⟨r, row0, q1, q2.symm, by rw [if_neg h1], h2, h1⟩
  have hgs : ∀ r0, r0 ≠ b → (fun r => if r = b then gs a else gs r) (if r0 = a then b else r0) = gs r0 := fun r0 h0 => by
    dsimp only
    by_cases h : r0 = a
    · subst h; simp
    · rw [if_neg h, if_neg h0]
  have hren : ∀ r row0, rowAt S.rows r = some row0 → ∃ row', rowAt (S.mv a b).rows (if r = a then b else r) = some row' ∧ (fun r => if r = b then gs a else gs r) (if r = a then b else r) = gs r ∧ row'.n = row0.n ∧ row'.xs.length = row0.xs.length := fun r row0 h => by
    have hrb : r ≠ b := fun e => by rw [e, hb] at h; cases h
    refine ⟨renRow a b row0, ?_, hgs r hrb, renRow_n .., renRow_len ..⟩
    rw [hrat]
    by_cases hra : r = a
    · subst hra
      rw [if_pos rfl, if_neg (fun e => hab e.symm), if_pos rfl, h]; rfl
    · rw [if_neg hra, if_neg hra, if_neg hrb, h]; rfl
  have hall : ∀ r0, r0 ≠ b → Gh.all (fun r => if r = b then gs a else gs r) (if r0 = a then b else r0) = gs.all r0 := fun r0 h0 => by
    have := hgs r0 h0
    simp only [Gh.all] at *
    rw [this]
  refine ⟨hd, G, fun r => if r = b then gs a else gs r, hi.keep, hi.os, hi.tape, hi.output, hi.size, hi.sz, hi.gsub, hi.gnew, hi.glt, fun r row' hr => ?_, fun r row' hr => ?_, fun r row' hr => ?_, fun r r' row' row'' hr hr' hne => ?_, fun i => ?_⟩
  · obtain ⟨r0, row0, h0, rfl, rfl, hb0, hra⟩ := hcase r row' hr
    have hrow := hi.row r0 row0 h0
    have e : (if (if r0 = a then b else r0) = b then gs a else gs (if r0 = a then b else r0)) = gs r0 := hgs r0 hb0
    rw [e]
    generalize (gs r0).1 = ob at hrow
    cases ob with
    | none =>
      obtain ⟨q1, q2⟩ := hrow
      refine ⟨?_, q2⟩
      unfold renRow
      split <;> simp [q1]
    | some c =>
      obtain ⟨cur, ee, cap, h1, h2, h3, h4, h5, h6, h7⟩ := hrow.ex
      unfold CellsRel at h7
      by_cases hl : row0.lk = true
      · have e1 : renRow a b row0 = { row0 with xs := row0.xs.map (ren a b) } := by unfold renRow; rw [if_pos hl]
        rw [e1]
        refine ⟨cur, ee, cap, h1, h2, by simpa using h3, h4, ?_, by simpa using h6, ?_⟩
        · intro x hx
          obtain ⟨y, hy, rfl⟩ := List.mem_map.1 hx
          rw [ren_width]; exact h5 y hy
        · unfold CellsRel
          rw [if_pos hl] at h7
          show if row0.lk = true then _ else _
          rw [if_pos hl, ren_flat]
          simpa using h7.ren hren
      · have e1 : renRow a b row0 = row0 := by unfold renRow; rw [if_neg hl]
        rw [e1]
        refine ⟨cur, ee, cap, h1, h2, h3, h4, h5, h6, ?_⟩
        unfold CellsRel
        rw [if_neg hl] at h7 ⊢
        exact h7
  · obtain ⟨r0, row0, h0, rfl, rfl, hb0, hra⟩ := hcase r row' hr
    rw [hall r0 hb0]; exact hi.nod r0 row0 h0
  · obtain ⟨r0, row0, h0, rfl, rfl, hb0, hra⟩ := hcase r row' hr
    rw [hall r0 hb0]; exact hi.own r0 row0 h0
  · obtain ⟨r0, row0, h0, rfl, rfl, hb0, hra⟩ := hcase r row' hr
    obtain ⟨r1, row1, h1, rfl, rfl, hb1, hra1⟩ := hcase r' row'' hr'
    rw [hall r0 hb0, hall r1 hb1]
    exact hi.dis r0 r1 row0 row1 h0 h1 fun e => hne (by rw [e])
  · show TRel w G (S.mv a b).rows _ (lk (renT a b S.t) i) _ []
    rw [lk_renT]
    exact (hi.tmp i).ren hren
end
end Go.Fw

/- Contracts of a result of which a relation speaks, for what is only read; results frozen. Plain theorems, no condition. -/
set_option linter.unusedVariables false
set_option linter.unusedSimpArgs false
namespace Go.Fw
/-- A contract that tells some result of which R speaks. -/
structure RCtr (P : Program) (g : Nat) (args : List A) (R : A → Prop) : Prop where
  enter : Enter P g
  run : ∀ (w : World) (G : Nat → Prop) (vs : List Value), GoodG P w G → RelL w G args vs [] → Calls P g vs.toArray w (fun e w' => ∃ v F x, R x ∧ e = .returned v ∧ Go.RowKit.Below w.heap.size w w' ∧
    F.Nodup ∧ (∀ b ∈ F, w.heap.size ≤ b) ∧ Rel w' (fun b => (G b ∨ (w.heap.size ≤ b ∧ b < w'.heap.size)) ∧ b ∉ F) x v F)
section
variable {P : Program} {T : Nat → Option TI} {S : State} {Ω : Opq}
theorem PCtr.r {g : Nat} {args : List A} {x : A} (h : PCtr P g args x) {R : A → Prop} (hR : R x) : RCtr P g args R :=
  ⟨h.enter, fun w G vs h1 h2 => Calls.mono (h.run w G vs h1 h2) (by rintro e w' ⟨v, F, rfl, h⟩; exact ⟨v, F, x, hR, rfl, h⟩)⟩
theorem RCtr.p {g : Nat} {args : List A} {x : A} (h : RCtr P g args fun y => y = x) : PCtr P g args x :=
  ⟨h.enter, fun w G vs h1 h2 => Calls.mono (h.run w G vs h1 h2) (by rintro e w' ⟨v, F, y, rfl, rfl, h⟩; exact ⟨v, F, rfl, h⟩)⟩
theorem RCtr.mono {g : Nat} {args : List A} {R R' : A → Prop} (h : RCtr P g args R) (hR : ∀ x, R x → R' x) : RCtr P g args R' :=
  ⟨h.enter, fun w G vs h1 h2 => Calls.mono (h.run w G vs h1 h2) (by rintro e w' ⟨v, F, x, h1, rfl, h⟩; exact ⟨v, F, x, hR _ h1, rfl, h⟩)⟩
theorem RCtr.frz {g : Nat} {args : List A} {R : A → Prop} (h : RCtr P g args R) : RCtr P g args fun x => ∃ y, R y ∧ x = frz y :=
  ⟨h.enter, fun w G vs h1 h2 => Calls.mono (h.run w G vs h1 h2) (by
    rintro e w' ⟨v, F, x, h3, rfl, h4, h5, h6, h7⟩
    exact ⟨v, [], _, ⟨x, h3, rfl⟩, rfl, h4, List.nodup_nil, by simp, h7.frz (fun b hb => ⟨hb.1, by simp⟩) fun b hb => ⟨.inr ⟨h6 b hb, h7.lt b hb⟩, by simp⟩⟩)⟩
theorem PCtr.frz {g : Nat} {args : List A} {x : A} (h : PCtr P g args x) : PCtr P g args (frz x) :=
  ((h.r (R := fun y => y = x) rfl).frz.mono (by rintro x ⟨y, rfl, rfl⟩; rfl)).p
theorem XCtr.r {g : Nat} {args : List A} {R : A → List A → Prop} (h : XCtr P g args R) (hn : args.all noOwn = true) : RCtr P g args fun x => ∃ o, R x o :=
  ⟨h.enter, fun w G vs h1 h2 => Calls.mono (h.run w G vs [] h1 List.nodup_nil (by simp) h2) (by
    rintro e w' ⟨v, Fx, Fo, x, o, h3, rfl, ⟨m1, m2, m3, m4, m5⟩, h5, h6, h7, h8⟩
    have h5' := List.nodup_append.1 h5
    exact ⟨v, Fx, x, ⟨o, h3⟩, rfl, ⟨m1, m2, m3, m4, fun b hb => m5 b hb (by simp)⟩, h5'.1, fun b hb => by simpa using h6 b (by simp [hb]), h7.move_ (fun b hb => ⟨⟨by simpa using hb.1, fun q => hb.2 (by simp [q])⟩, rfl⟩) fun _ _ => rfl⟩)⟩
/-- A walk of the body gives the contract. -/
theorem RCtr.of {g : Nat} {c : Code} {N : Nat} {rs : List ResultVar} {xs : List A} {R : A → Prop} (hf : FnAt P g c N rs) (hN : xs.length ≤ N) (h : VC P c (entryS N xs) (fun e S => ∃ x, R x ∧ outK P rs x e S)) : RCtr P g xs R := by
  obtain ⟨hen, fn, h1, h2, h3, h4⟩ := hf
  refine ⟨hen, fun w G vs hG hl => ?_⟩
  have hlen := hl.length
  refine calls_of_wp h1 h2 ?_
  have hinv : Inv (P := P) ⟨w, G, fun _ => False, fun _ => undef⟩ G (fun _ => (none, [])) (entryS N xs) (vs.toArray ++ Array.replicate (fn.ntmps - vs.toArray.size) undef) w := by
    refine ⟨fun _ _ _ => rfl, rfl, rfl, rfl, Nat.le_refl _, ?_, fun _ h => h, fun _ h => .inl h, hG, ?_, ?_, ?_, ?_, fun i => ?_⟩
    · simp [entryS, h3]; omega
    · intro r row hr; simp [entryS, rowAt] at hr
    · intro r row hr; simp [entryS, rowAt] at hr
    · intro r row hr; simp [entryS, rowAt] at hr
    · intro r r' row row' hr; simp [entryS, rowAt] at hr
    · show TRel w G [] _ (lk (entryT 0 xs) i) _ []
      rw [lk_entryT, if_pos (Nat.zero_le _), Nat.sub_zero]
      unfold vat
      by_cases hi : i < xs.length
      · obtain ⟨v, hv, hr⟩ := hl.get i xs[i] (List.getElem?_eq_getElem hi)
        rw [List.getD_eq_getElem?_getD, List.getElem?_eq_getElem hi]
        have : (vs.toArray ++ Array.replicate (fn.ntmps - vs.toArray.size) undef).getD i undef = v := by
          rw [Array.getD_eq_getD_getElem?, Array.getElem?_append_left (by simp; omega)]
          simp [hv]
        rw [if_pos (by simp; omega), this]; exact .of hr
      · rw [List.getD_eq_getElem?_getD, List.getElem?_eq_none (by omega)]
        exact .un
  refine wp_mono (h _ { tmps := vs.toArray ++ Array.replicate (fn.ntmps - vs.toArray.size) undef, defers := [] } w ⟨rfl, G, _, hinv⟩) ?_
  rintro e a' w' ⟨S', ⟨hd, G', gs', hi'⟩, x, hR, hK⟩
  have fin : Outs P rs x S' → a'.defers = [] ∧ ∃ v, (results fn a'.tmps).run P w' = .ok v w' ∧ (∃ v_1 F y, R y ∧ Ending.returned v = .returned v_1 ∧ Go.RowKit.Below w.heap.size w w' ∧
      F.Nodup ∧ (∀ b ∈ F, w.heap.size ≤ b) ∧ Rel w' (fun b => (G b ∨ (w.heap.size ≤ b ∧ b < w'.heap.size)) ∧ b ∉ F) y v_1 F) := by
    intro ho
    refine ⟨hd, ?_⟩
    obtain ⟨vs', zs, F, k, g1, g2, g3, g4, g5⟩ := ho _ _ _ _ _ hi'
    have hres := fitA_rel k _ _ _ _ g5 (oneA_rel g2)
    refine ⟨oneV vs', h4 _ _ _ g1, _, F, x, hR, rfl, ⟨hi'.os, hi'.tape, hi'.output, hi'.size, fun b hb => hi'.keep b hb id⟩, g3, fun b hb => ?_, ?_⟩
    · rcases (g4 b hb).2 with h | h
      · exact h.elim
      · exact h
    · refine hres.move_ (fun b hb => ⟨⟨?_, fun hF => (g4 b hF).1 hb⟩, rfl⟩) (fun b hb => rfl)
      rcases hi'.gnew b hb with h | h | h
      · exact .inl h
      · exact h.elim
      · exact .inr ⟨h, hi'.glt b hb⟩
  cases e with
  | normal => exact fin hK
  | ret => exact fin hK
  | _ => exact hK.elim
theorem RCtr.walk (hT : TabOK P T) (hΩ : Ω = std) {g : Nat} {c : Code} {N : Nat} {rs : List ResultVar} {xs : List A} {R : A → Prop} (hf : FnAt P g c N rs) (hN : Nat.ble xs.length N = true)
    (h : vC Ω P T c (entryS N xs) (fun e S => ∃ x, R x ∧ outV Ω T rs x e S)) : RCtr P g xs R :=
  RCtr.of hf (Nat.le_of_ble_eq_true hN) (VC.mono (vstart hT hΩ h) fun e S' ⟨x, hR, h⟩ => ⟨x, hR, outV_ok hT (hΩ ▸ h)⟩)
end
end Go.Fw

/- Regions that draw their order, of which the operations that do something may stand in a few orders. Plain theorems, no condition. -/
set_option linter.unusedVariables false
set_option linter.unusedSimpArgs false
namespace Go.Fw
/-- The orders that may come. -/
inductive Ord where
  | fin
  | step (n : Nat) (o : Ord)
  | two (n : Nat) (o : Ord) (m : Nat) (p : Ord)
def Ord.depth : Ord → Nat
  | .fin => 0
  | .step _ o => o.depth + 1
  | .two _ o _ _ => o.depth + 1
section
variable {P : Program} {T : Nat → Option TI} {S : State} {Ω : Opq}
def vOne (Ω : Opq) (P : Program) (T : Nat → Option TI) (ops : List Oper) (mv : Option Nat) (n : Nat) (S : State) (k : Option Nat → State → Prop) : Prop :=
  match ops[n]? with
    | some o => (match o.guard with
      | none => vOp Ω P T mv o S fun S' => k (madeBy o) S'
      | some _ => False)
    | none => False
def vOrd (Ω : Opq) (P : Program) (T : Nat → Option TI) (ops : List Oper) : Ord → Option Nat → State → (State → Prop) → Prop
  | .fin, _, S, K => K S
  | .step n o, mv, S, K => vOne Ω P T ops mv n S fun mv' S' => vOrd Ω P T ops o mv' S' K
  | .two n o m p, mv, S, K => (vOne Ω P T ops mv n S fun mv' S' => vOrd Ω P T ops o mv' S' K) ∧ (vOne Ω P T ops mv m S fun mv' S' => vOrd Ω P T ops p mv' S' K)
def heldO (ops : Array Oper) : Ord → Array Bool → Bool
  | .fin, l => (Region.ready .any ops l).isEmpty
  | .step n o, l => decide (Region.ready .any ops l = [n]) && heldO ops o (l.setIfInBounds n true)
  | .two n o m p, l => decide (Region.ready .any ops l = [n, m]) && decide (o.depth = p.depth) && heldO ops o (l.setIfInBounds n true) && heldO ops p (l.setIfInBounds m true)
def heldQO (ops : Array Oper) (o : Ord) : List Nat → Array Bool → Bool
  | [], l => heldO ops o l
  | q :: qs, l => (Region.ready .any ops l).contains q && Region.free .any ops l q && heldQO ops o qs (l.setIfInBounds q true)
def heldOB (ops : Array Oper) (qs : List Nat) (o : Ord) : Bool :=
  Region.noSelect ops && decide (qs.length + o.depth = ops.size) && heldQO ops o qs (Array.replicate ops.size false)
theorem vOne_ok (hT : TabOK P T) {ops : List Oper} {E : Env P} {mv : Option Nat} {n : Nat} {S : State} {k : Option Nat → State → Prop} (h : vOne std P T ops mv n S k) {a : Act} {w : World} (hs : SInv E S a w)
    {K' : Act → World → Prop} {Q : Exit → Act → World → Prop} (hk : ∀ mv' S' a' w', k mv' S' → SInv E S' a' w' → K' a' w') : wpOp P ops.toArray Q n K' a w := by
  unfold vOne at h
  split at h <;> try exact h.elim
  rename_i o ho
  split at h <;> try exact h.elim
  rename_i hg
  unfold wpOp
  rw [show ops.toArray[n]? = some o by simpa using ho]
  simp only
  rw [if_pos (by simp [Region.wanted, hg])]
  exact .inl (vOp_ok hT h E a w _ _ hs fun S' a' w' hK hs' => hk _ S' a' w' hK hs')
theorem heldO_ok (hT : TabOK P T) {ops : List Oper} {E : Env P} {Sc : World → Prop} (hSc : ∀ S a w, SInv E S a w → Sc w) {K : State → Prop} : ∀ (o : Ord) (listed : Array Bool) (mv : Option Nat) (S : State) (a : Act) (w : World), heldO ops.toArray o listed = true →
    vOrd std P T ops o mv S K → SInv E S a w → wpAnyH P .any ops.toArray (fun e a' w' => e = .normal ∧ ∃ S', SInv E S' a' w' ∧ K S') Sc o.depth listed a w
  | .fin, listed, mv, S, a, w, hB, h, hs => ⟨by simpa [heldO] using hB, rfl, S, hs, h⟩
  | .step n o, listed, mv, S, a, w, hB, h, hs => by
    simp only [heldO, Bool.and_eq_true, decide_eq_true_eq] at hB
    unfold vOrd at h
    refine wpAnyH_all hB.1 (by simp) fun i hi => ?_
    have hin : i = n := by simpa using hi
    subst hin
    exact vOne_ok hT h hs fun mv' S' a' w' hK hs' => ⟨hSc _ _ _ hs', heldO_ok hT hSc o _ _ S' a' w' hB.2 hK hs'⟩
  | .two n o m p, listed, mv, S, a, w, hB, h, hs => by
    simp only [heldO, Bool.and_eq_true, decide_eq_true_eq] at hB
    unfold vOrd at h
    refine wpAnyH_all hB.1.1.1 (by simp) fun i hi => ?_
    have hin : i = n ∨ i = m := by simpa using hi
    rcases hin with rfl | rfl
    · exact vOne_ok hT h.1 hs fun mv' S' a' w' hK hs' => ⟨hSc _ _ _ hs', heldO_ok hT hSc o _ _ S' a' w' hB.1.2 hK hs'⟩
    · exact vOne_ok hT h.2 hs fun mv' S' a' w' hK hs' => ⟨hSc _ _ _ hs', by rw [hB.1.1.2]; exact heldO_ok hT hSc p _ _ S' a' w' hB.2 hK hs'⟩
theorem heldQO_ok (hT : TabOK P T) {ops : List Oper} {E : Env P} {G : Nat → Prop} {gs : Gh} {w : World} {Q : Exit → Act → World → Prop} (hQ : ∀ c a w, ¬ Q (.panic c) a w) (hsel : Region.noSelect ops.toArray = true) {o : Ord} {K : State → Prop}
    (hK : ∀ S a listed, heldO ops.toArray o listed = true → K S → a.defers = [] → Inv E G gs S a.tmps w → wpAnyH P .any ops.toArray Q (Agree G w) o.depth listed a w) : ∀ (qs : List Nat) (listed : Array Bool) (S : State) (a : Act), heldQO ops.toArray o qs listed = true →
    vGs std T ops qs S K → a.defers = [] → Inv E G gs S a.tmps w → wpAnyH P .any ops.toArray Q (Agree G w) (qs.length + o.depth) listed a w
  | [], listed, S, a, hB, h, hd, hi => by rw [List.length_nil, Nat.zero_add]; exact hK S a listed hB h hd hi
  | q :: qs, listed, S, a, hB, h, hd, hi => by
    simp only [heldQO, Bool.and_eq_true] at hB
    unfold vGs at h
    split at h <;> try exact h.elim
    rename_i u ho
    split at h <;> try exact h.elim
    rename_i hg
    obtain ⟨z, h1, h2⟩ := vGOp_ok hT h
    obtain ⟨v, h3, h4⟩ := h1 E G gs a w hi
    rw [List.length_cons, show qs.length + 1 + o.depth = (qs.length + o.depth) + 1 by omega]
    refine wpAnyH_take (oi := u) (v := v) (by simpa using ho) hsel hB.1.2 hB.1.1 (fun c a w h => (hQ _ _ _ h).elim) (.inl ⟨by simp [Region.wanted, hg], h3⟩) (fun _ _ => rfl) ?_
    exact heldQO_ok hT hQ hsel hK qs _ _ _ hB.2 h2 (by rw [put_defers]; exact hd) (hi.put h4 u.dst)
/-- A region that draws its order: the operations qs only read what nobody in it writes; the others stand in the orders o. -/
theorem VC_order (hT : TabOK P T) (hΩ : Ω = std) (hm : P.follows .mixedOrders = true) (qs : List Nat) (o : Ord) {id : Nat} {ops : Array Oper} {K : Exit → State → Prop} (hB : heldOB ops qs o = true)
    (h : vGs Ω T ops.toList qs S fun S' => vOrd Ω P T ops.toList o none S' (K .normal)) : VC P (.region id ops true) S K := by
  subst hΩ
  intro E a w hs
  have hops : ops = ops.toList.toArray := by simp
  rw [hops] at hB ⊢
  obtain ⟨hd, G, gs, hi⟩ := hs
  simp only [heldOB, Bool.and_eq_true, decide_eq_true_eq] at hB
  obtain ⟨⟨hsel, hsz⟩, hB⟩ := hB
  have hw1 : Go.RowKit.Below w.heap.size w { w with drawn := w.drawn + 1 } := ⟨rfl, rfl, rfl, Nat.le_refl _, fun _ _ => rfl⟩
  have hi1 : Inv E G gs S a.tmps { w with drawn := w.drawn + 1 } := hi.below hw1 (fun _ h => h) (fun _ h => .inl h) (fun b h => Nat.lt_of_lt_of_le (hi.glt b h) hw1.size)
  have hwp : (Code.region id ops.toList.toArray true).wp P (fun e a' w' => e = .normal ∧ ∃ S', SInv (envAt E G gs S { w with drawn := w.drawn + 1 }) S' a' w' ∧ K .normal S') a w := by
    refine wp_region_held (S := Agree G { w with drawn := w.drawn + 1 }) hm ?_
    rw [show ops.toList.toArray.size = qs.length + o.depth from hsz.symm]
    rw [show ops.toList.toArray.size = qs.length + o.depth from hsz.symm] at hB
    refine heldQO_ok hT (fun c a w h => by cases h.1) hsel (fun S2 a2 listed hB2 hK2 hd2 hi2 => ?_) qs _ S a hB h hd hi1.at
    refine heldO_ok hT (fun S3 a3 w3 hs3 => ?_) o listed none S2 a2 _ hB2 hK2 ⟨hd2, G, gs, hi2⟩
    obtain ⟨_, G3, gs3, hi3⟩ := hs3
    exact hi1.agree hi3
  refine wp_mono hwp ?_
  rintro e a' w' ⟨rfl, S', ⟨hd', G', gs', hi'⟩, hK'⟩
  exact ⟨S', ⟨hd', G', gs', hi1.back hi'⟩, hK'⟩
end
end Go.Fw

/- Regions that draw their order, taken by a plan: operations that only read, calls, orders, guards. Plain theorems, no condition. -/
set_option linter.unusedVariables false
set_option linter.unusedSimpArgs false
namespace Go.Fw
/-- A plan: q: an operation that only reads; s: the one that must come; two: one of two. -/
inductive Pln where
  | fin
  | q (n : Nat) (p : Pln)
  | s (n : Nat) (p : Pln)
  | two (n : Nat) (p : Pln) (m : Nat) (r : Pln)
def Pln.depth : Pln → Nat
  | .fin => 0
  | .q _ p => p.depth + 1
  | .s _ p => p.depth + 1
  | .two _ p _ _ => p.depth + 1
def Pln.qs : List Nat → Pln → Pln
  | [], p => p
  | n :: ns, p => .q n (Pln.qs ns p)
section
variable {P : Program} {T : Nat → Option TI} {S : State} {Ω : Opq}
def planB (ops : Array Oper) : Pln → Array Bool → Bool
  | .fin, l => (Region.ready .any ops l).isEmpty
  | .q n p, l => (Region.ready .any ops l).contains n && Region.free .any ops l n && planB ops p (l.setIfInBounds n true)
  | .s n p, l => decide (Region.ready .any ops l = [n]) && planB ops p (l.setIfInBounds n true)
  | .two n p m r, l => decide (Region.ready .any ops l = [n, m]) && decide (p.depth = r.depth) && planB ops p (l.setIfInBounds n true) && planB ops r (l.setIfInBounds m true)
def planOK (ops : Array Oper) (p : Pln) : Bool := Region.noSelect ops && decide (p.depth = ops.size) && planB ops p (Array.replicate ops.size false)
def noRowsB (rows : List (Option Row)) : Bool := rows.all Option.isNone
theorem noRows_at {rows : List (Option Row)} (h : noRowsB rows = true) (r : Nat) : rowAt rows r = none := by
  unfold rowAt
  cases hr : rows[r]? with
  | none => rfl
  | some o =>
    have := List.all_eq_true.1 h o (List.mem_of_getElem? hr)
    cases o with
    | none => rfl
    | some _ => cases this
def vPOp (Ω : Opq) (P : Program) (T : Nat → Option TI) (o : Oper) (S : State) (k : A → Prop) : Prop :=
  match o.op with
  | .move x => k (ev S x)
  | .assign x => k (ev S x)
  | .pick c x y => vPick Ω (ev S c) (ev S x) (ev S y) k
  | .unOp op _ x => vUn Ω op (ev S x) k
  | .binOp op t x y _ => vBinA Ω P T op t (ev S x) (ev S y) k
  | .load t x => vLoad T t S (ev S x) k
  | .fieldAddr t x i => vFieldAddr T t i (ev S x) k
  | .field t x i => vField T t i (ev S x) k
  | .indexAddr t x y => vIndexAddr Ω T t S (ev S x) (ev S y) k
  | .index t x y => vIndex Ω T t (ev S x) (ev S y) k
  | .extract x i => vExtract (ev S x) i k
  | .nilCheck x => vNilCheck (ev S x) k
  | .build t parts => vBuild T t (parts.toList.map fun p => (p.1, ev S p.2)) k
  | .slice t x lo hi none => vSlice Ω T t S (ev S x) (lo.map (ev S)) (hi.map (ev S)) k
  | .convert src dst x => vConv Ω T src dst S (ev S x) k
  | .makeFunc f first caps => vMakeFn f (first.toList.map (ev S)) (caps.toList.map (ev S)) k
  | .call c => (match c.callee, c.args.toList, c.argTypes.toList with
    | .builtin .len, [x], [t] => vLen Ω T t (ev S x) k
    | _, _, _ => False)
  | _ => False
/-- Under a guard: done, or passed over. -/
def vGd (ops : List Oper) (o : Oper) (S : State) (X Y : State → Prop) : Prop :=
  match o.guard with
  | none => X S
  | some (j, b) =>
    match guardAt ops j with
    | none => False
    | some i => if i < S.N then (match lk S.t i with
      | .sc (.bool p) => brB p
          (fun _ => match b with
            | true => X (S.put (some i) (.sc (.bool true)))
            | false => Y (S.put (some i) (.sc (.bool true))))
          (fun _ => match b with
            | true => Y (S.put (some i) (.sc (.bool false)))
            | false => X (S.put (some i) (.sc (.bool false))))
      | .tup [] => Y S
      | _ => False) else False
def vPlan (Ω : Opq) (P : Program) (T : Nat → Option TI) (ops : List Oper) : Pln → Option Nat → State → (State → Prop) → Prop
  | .fin, _, S, K => K S
  | .q n p, mv, S, K => (match ops[n]? with
    | some o => vGd ops o S (fun S => noRowsB S.rows = true ∧ vPOp Ω P T o S fun z => vPlan Ω P T ops p mv (S.put o.dst z) K) (fun S => noRowsB S.rows = true ∧ vPlan Ω P T ops p mv (S.put o.dst (.tup [])) K)
    | none => False)
  | .s n p, mv, S, K => (match ops[n]? with
    | some o => vGd ops o S (fun S => vOp Ω P T mv o S fun S' => vPlan Ω P T ops p (madeBy o) S' K) (fun S => vPlan Ω P T ops p none (S.put o.dst (.tup [])) K)
    | none => False)
  | .two n p m r, mv, S, K => (match ops[n]?, ops[m]? with
    | some o, some o' => vGd ops o S (fun S => vOp Ω P T mv o S fun S' => vPlan Ω P T ops p (madeBy o) S' K) (fun S => vPlan Ω P T ops p none (S.put o.dst (.tup [])) K) ∧
        vGd ops o' S (fun S => vOp Ω P T mv o' S fun S' => vPlan Ω P T ops r (madeBy o') S' K) (fun S => vPlan Ω P T ops r none (S.put o'.dst (.tup [])) K)
    | _, _ => False)
theorem vPOp_ok (hT : TabOK P T) {o : Oper} {k : A → Prop} (h : vPOp std P T o S k) : ∃ z, VOK P o S z ∧ k z := by
  unfold vPOp at h
  split at h
  · rename_i x ho; exact ⟨_, VOK_move (.inl ho) rfl, h⟩
  · rename_i x ho; exact ⟨_, VOK_move (.inr ho) rfl, h⟩
  · rename_i ho; exact vPick_ok ho h
  · rename_i ho; exact vUn_ok ho h
  · rename_i ho; exact vBinA_ok hT ho h
  · rename_i ho; exact vLoad_ok hT ho h
  · rename_i ho; exact vFieldAddr_ok hT ho h
  · rename_i ho; exact vField_ok hT ho h
  · rename_i ho; exact vIndexAddr_ok hT ho h
  · rename_i ho; exact vIndex_ok hT ho h
  · rename_i ho; exact vExtract_ok ho h
  · rename_i ho; exact vNilCheck_ok ho h
  · rename_i ho; exact vBuild_ok hT ho h
  · rename_i ho; exact vSlice_ok hT ho h
  · rename_i ho; exact vConv_ok hT ho h
  · rename_i ho; exact vMakeFn_ok ho h
  · rename_i c ho
    split at h <;> try exact h.elim
    rename_i x t h1 h2 h3
    exact vLen_ok hT ho h1 h2 h3 h
  · exact h.elim
/-- What a guard says. -/
theorem vGd_ok {ops : List Oper} {o : Oper} {X Y : State → Prop} (h : vGd ops o S X Y) {E : Env P} {G : Nat → Prop} {gs : Gh} {a : Act} {w : World} (hi : Inv E G gs S a.tmps w) :
    ∃ S', S'.rows = S.rows ∧ Inv E G gs S' a.tmps w ∧ ((Region.wanted o (yielded ops.toArray a.tmps) = true ∧ X S') ∨ (Region.wanted o (yielded ops.toArray a.tmps) = false ∧ Y S')) := by
  unfold vGd at h
  split at h
  · rename_i hg; exact ⟨S, rfl, hi, .inl ⟨by simp [Region.wanted, hg], h⟩⟩
  · rename_i j b hg
    split at h <;> try exact h.elim
    rename_i i hat
    split at h <;> try exact h.elim
    rename_i hN
    have hsz : i < a.tmps.size := by rw [hi.sz]; exact hN
    have h1 : ((ops.toArray[j]?).bind (·.dst)) = some i := by simpa [guardAt] using hat
    split at h <;> try exact h.elim
    case h_2 hp =>
      have ht := hi.tmp i
      rw [hp, hi.vat_tmp hN] at ht
      obtain ⟨cs, hv, hcs⟩ := tup_inv ht
      have hcs0 : cs = #[] := Array.eq_empty_of_size_eq_zero (by simpa using hcs.length)
      subst hcs0
      have hy : yielded ops.toArray a.tmps j = none := by
        unfold yielded
        rw [h1]
        rw [Array.getD_eq_getD_getElem?, Array.getElem?_eq_getElem hsz] at hv
        simp only [Option.getD_some] at hv
        simp [Array.getElem?_eq_getElem hsz, hv]
      exact ⟨S, rfl, hi, .inr ⟨by simp [Region.wanted, hg, hy], h⟩⟩
    rename_i p hp
    have hy : ∀ q, p = q → yielded ops.toArray a.tmps j = some q ∧ Inv E G gs (S.put (some i) (.sc (.bool q))) a.tmps w := fun q hq => by
      subst hq
      have ht := hi.tmp i
      have ht' := ht
      rw [hp, hi.vat_tmp hN] at ht
      have hv := (sc_inv ht).1
      refine ⟨?_, hi.retell (by rw [hp] at ht'; exact ht') hN⟩
      unfold yielded
      rw [h1]
      rw [Array.getD_eq_getD_getElem?, Array.getElem?_eq_getElem hsz] at hv
      simp only [Option.getD_some] at hv
      simp [Array.getElem?_eq_getElem hsz, hv]
    obtain ⟨ht, hf⟩ := brB_ok h
    cases p with
    | true =>
      obtain ⟨hy1, hy2⟩ := hy true rfl
      have := ht rfl
      cases b with
      | true => exact ⟨_, put_rows _ _ _, hy2, .inl ⟨by simp [Region.wanted, hg, hy1], this⟩⟩
      | false => exact ⟨_, put_rows _ _ _, hy2, .inr ⟨by simp [Region.wanted, hg, hy1], this⟩⟩
    | false =>
      obtain ⟨hy1, hy2⟩ := hy false rfl
      have := hf rfl
      cases b with
      | true => exact ⟨_, put_rows _ _ _, hy2, .inr ⟨by simp [Region.wanted, hg, hy1], this⟩⟩
      | false => exact ⟨_, put_rows _ _ _, hy2, .inl ⟨by simp [Region.wanted, hg, hy1], this⟩⟩
theorem wpAnyH_mono {ops : Array Oper} {Q : Exit → Act → World → Prop} {Sc Sc' : World → Prop} (h : ∀ w, Sc w → Sc' w) : ∀ (n : Nat) (l : Array Bool) (a : Act) (w : World), wpAnyH P .any ops Q Sc n l a w → wpAnyH P .any ops Q Sc' n l a w
  | 0, _, _, _, hh => hh
  | n + 1, _, _, _, hh => ⟨hh.1, fun i hi => wpOp_mono (fun a' w' h' => ⟨h _ h'.1, wpAnyH_mono h n _ a' w' h'.2⟩) (hh.2 i hi)⟩
theorem envAt_put (E : Env P) (G : Nat → Prop) (gs : Gh) (S : State) (w : World) (d : Option Nat) (z : A) : envAt E G gs (S.put d z) w = envAt E G gs S w := by
  unfold envAt
  rw [put_rows]
theorem plan_step (hT : TabOK P T) {ops : List Oper} {Q : Exit → Act → World → Prop} {E : Env P} {n : Nat} {o : Oper} {mv : Option Nat} {X : Oper → State → Prop} {Y : State → Prop} (ho : ops[n]? = some o) {S : State} {a : Act} {w : World}
    (h : vGd ops o S (fun S => vOp std P T mv o S fun S' => X o S') Y) (hs : SInv E S a w) {K' : Act → World → Prop} (hX : ∀ S' a' w', X o S' → SInv E S' a' w' → K' a' w') (hY : ∀ S' , Y S' → SInv E S' a w → K' (a.put o.dst undef) w) : wpOp P ops.toArray Q n K' a w := by
  obtain ⟨hd, G, gs, hi⟩ := hs
  obtain ⟨S', hrows, hi', hV⟩ := vGd_ok h hi
  unfold wpOp
  rw [show ops.toArray[n]? = some o by simpa using ho]
  simp only
  rcases hV with ⟨hw, hv⟩ | ⟨hw, hv⟩
  · rw [if_pos hw]
    exact .inl (vOp_ok hT hv E a w _ _ ⟨hd, G, gs, hi'⟩ fun S' a' w' hK hs' => hX S' a' w' hK hs')
  · rw [if_neg (by simp [hw])]
    exact hY S' hv ⟨hd, G, gs, hi'⟩
theorem skip_put {E : Env P} {S : State} {a : Act} {w : World} (hs : SInv E S a w) (d : Option Nat) : SInv E (S.put d (.tup [])) (a.put d undef) w := by
  obtain ⟨hd, G, gs, hi⟩ := hs
  exact ⟨by rw [put_defers]; exact hd, G, gs, hi.put (tup_undef _ _ _) d⟩
theorem plan_ok (hT : TabOK P T) {ops : List Oper} {E0 : Env P} (hsel : Region.noSelect ops.toArray = true) {K : State → Prop} : ∀ (p : Pln) (l : Array Bool) (mv : Option Nat) (S : State) (a : Act) (w : World) (E : Env P) (Sc : World → Prop), planB ops.toArray p l = true →
    vPlan std P T ops p mv S K → SInv E S a w → (∀ S a w, SInv E S a w → SInv E0 S a w) → (∀ S a w, SInv E S a w → Sc w) →
    wpAnyH P .any ops.toArray (fun e a' w' => e = .normal ∧ ∃ S', SInv E0 S' a' w' ∧ K S') Sc p.depth l a w
  | .fin, l, mv, S, a, w, E, Sc, hB, h, hs, hb, hSc => ⟨by simpa [planB] using hB, rfl, S, hb _ _ _ hs, h⟩
  | .q n p, l, mv, S, a, w, E, Sc, hB, h, hs, hb, hSc => by
    simp only [planB, Bool.and_eq_true] at hB
    unfold vPlan at h
    split at h <;> try exact h.elim
    rename_i o ho
    obtain ⟨hd, G, gs, hi⟩ := hs
    obtain ⟨S', hrows, hi', hX⟩ := vGd_ok h hi
    have hno : noRowsB S'.rows = true := by rcases hX with ⟨_, h, _⟩ | ⟨_, h, _⟩ <;> exact h
    have hbel : ∀ S2 a2 w2, SInv (envAt E G gs S' w) S2 a2 w2 → Go.RowKit.Below w.heap.size w w2 := fun S2 a2 w2 ⟨_, G2, gs2, hi2⟩ =>
      ⟨hi2.os, hi2.tape, hi2.output, hi2.size, fun b hb => hi2.keep b hb fun ⟨r, row, hr, _⟩ => by rw [noRows_at hno] at hr; cases hr⟩
    have hback : ∀ S2 a2 w2, SInv (envAt E G gs S' w) S2 a2 w2 → SInv E S2 a2 w2 := fun S2 a2 w2 ⟨h1, G2, gs2, hi2⟩ => ⟨h1, G2, gs2, hi'.back hi2⟩
    have hat : SInv (envAt E G gs S' w) S' a w := ⟨hd, G, gs, hi'.at⟩
    refine wpAnyH_mono (Sc := fun w' => Sc w' ∧ Go.RowKit.Below w.heap.size w w') (fun _ h => h.1) _ _ _ _ ?_
    have hself : Sc w ∧ Go.RowKit.Below w.heap.size w w := ⟨hSc _ _ _ ⟨hd, G, gs, hi⟩, ⟨rfl, rfl, rfl, Nat.le_refl _, fun _ _ => rfl⟩⟩
    have ho' : ops.toArray[n]? = some o := by simpa using ho
    rcases hX with ⟨hw, _, hv⟩ | ⟨hw, _, hv⟩
    · obtain ⟨z, h1, h2⟩ := vPOp_ok hT hv
      obtain ⟨v, h3, h4⟩ := h1 E G gs a w hi'
      refine wpAnyH_take (oi := o) (v := v) ho' hsel hB.1.2 hB.1.1 (fun c a w h => absurd h.1 (by simp)) (.inl ⟨hw, fun w' hw' => h3 w' hw'.2⟩) hself ?_
      exact plan_ok hT hsel p _ mv _ _ w (envAt E G gs S' w) _ hB.2 h2 ⟨by rw [put_defers]; exact hd, G, gs, envAt_put E G gs S' w o.dst z ▸ (hi'.put h4 o.dst).at⟩ (fun S a w h => hb _ _ _ (hback _ _ _ h)) (fun S a w h => ⟨hSc _ _ _ (hback _ _ _ h), hbel _ _ _ h⟩)
    · refine wpAnyH_take (oi := o) (v := undef) ho' hsel hB.1.2 hB.1.1 (fun c a w h => absurd h.1 (by simp)) (.inr ⟨hw, rfl⟩) hself ?_
      exact plan_ok hT hsel p _ mv _ _ w (envAt E G gs S' w) _ hB.2 hv ⟨by rw [put_defers]; exact hd, G, gs, envAt_put E G gs S' w o.dst (.tup []) ▸ (hi'.put (tup_undef _ _ _) o.dst).at⟩ (fun S a w h => hb _ _ _ (hback _ _ _ h)) (fun S a w h => ⟨hSc _ _ _ (hback _ _ _ h), hbel _ _ _ h⟩)
  | .s n p, l, mv, S, a, w, E, Sc, hB, h, hs, hb, hSc => by
    simp only [planB, Bool.and_eq_true, decide_eq_true_eq] at hB
    unfold vPlan at h
    split at h <;> try exact h.elim
    rename_i o ho
    refine wpAnyH_all hB.1 (by simp) fun i hi => ?_
    obtain rfl : i = n := by simpa using hi
    exact plan_step hT (X := fun o S' => vPlan std P T ops p (madeBy o) S' K) ho h hs (fun S' a' w' hK hs' => ⟨hSc _ _ _ hs', plan_ok hT hsel p _ _ S' a' w' E Sc hB.2 hK hs' hb hSc⟩)
      fun S' hK hs' => ⟨hSc _ _ _ hs', plan_ok hT hsel p _ _ _ _ w E Sc hB.2 hK (skip_put hs' o.dst) hb hSc⟩
  | .two n p m r, l, mv, S, a, w, E, Sc, hB, h, hs, hb, hSc => by
    simp only [planB, Bool.and_eq_true, decide_eq_true_eq] at hB
    unfold vPlan at h
    split at h <;> try exact h.elim
    rename_i o o' ho ho'
    refine wpAnyH_all hB.1.1.1 (by simp) fun i hi => ?_
    have hin : i = n ∨ i = m := by simpa using hi
    rcases hin with rfl | rfl
    · exact plan_step hT (X := fun o S' => vPlan std P T ops p (madeBy o) S' K) ho h.1 hs (fun S' a' w' hK hs' => ⟨hSc _ _ _ hs', plan_ok hT hsel p _ _ S' a' w' E Sc hB.1.2 hK hs' hb hSc⟩)
        fun S' hK hs' => ⟨hSc _ _ _ hs', plan_ok hT hsel p _ _ _ _ w E Sc hB.1.2 hK (skip_put hs' o.dst) hb hSc⟩
    · have := plan_step (Q := fun e a' w' => e = .normal ∧ ∃ S', SInv E0 S' a' w' ∧ K S') (K' := fun a' w' => Sc w' ∧ wpAnyH P .any ops.toArray (fun e a' w' => e = .normal ∧ ∃ S', SInv E0 S' a' w' ∧ K S') Sc r.depth (l.setIfInBounds i true) a' w') hT (X := fun o S' => vPlan std P T ops r (madeBy o) S' K) ho' h.2 hs (fun S' a' w' hK hs' => ⟨hSc _ _ _ hs', plan_ok hT hsel r _ _ S' a' w' E Sc hB.2 hK hs' hb hSc⟩)
        fun S' hK hs' => ⟨hSc _ _ _ hs', plan_ok hT hsel r _ _ _ _ w E Sc hB.2 hK (skip_put hs' o'.dst) hb hSc⟩
      rw [← hB.1.1.2] at this
      exact this
/-- A region that draws its order, by a plan. -/
theorem VC_plan (hT : TabOK P T) (hΩ : Ω = std) (hm : P.follows .mixedOrders = true) (p : Pln) {id : Nat} {ops : Array Oper} {K : Exit → State → Prop} (hB : planOK ops p = true)
    (h : vPlan Ω P T ops.toList p none S (K .normal)) : VC P (.region id ops true) S K := by
  subst hΩ
  intro E a w hs
  have hops : ops = ops.toList.toArray := by simp
  rw [hops] at hB ⊢
  obtain ⟨hd, G, gs, hi⟩ := hs
  simp only [planOK, Bool.and_eq_true, decide_eq_true_eq] at hB
  obtain ⟨⟨hsel, hsz⟩, hB⟩ := hB
  have hw1 : Go.RowKit.Below w.heap.size w { w with drawn := w.drawn + 1 } := ⟨rfl, rfl, rfl, Nat.le_refl _, fun _ _ => rfl⟩
  have hi1 : Inv E G gs S a.tmps { w with drawn := w.drawn + 1 } := hi.below hw1 (fun _ h => h) (fun _ h => .inl h) (fun b h => Nat.lt_of_lt_of_le (hi.glt b h) hw1.size)
  have hwp : (Code.region id ops.toList.toArray true).wp P (fun e a' w' => e = .normal ∧ ∃ S', SInv E S' a' w' ∧ K .normal S') a w := by
    refine wp_region_held (S := fun _ => True) hm ?_
    have := plan_ok (E0 := E) hT hsel p _ none S a _ E (fun _ => True) hB h ⟨hd, G, gs, hi1⟩ (fun _ _ _ h => h) (fun _ _ _ _ => trivial)
    rw [hsz] at this
    exact this
  refine wp_mono hwp ?_
  rintro e a' w' ⟨rfl, S', hs', hK'⟩
  exact ⟨S', hs', hK'⟩
end
end Go.Fw

/- The library's numerals and joins, as contracts. Plain theorems. -/
set_option linter.unusedVariables false
set_option linter.unusedSimpArgs false
namespace Go.Proofs
open Go.Shelf
def Tryd.fmtI_ren : Go.Shelf.Ren := ⟨fun | 173 => 52 | 246 => 61 | 283 => 67 | 284 => 68 | 285 => 69 | 286 => 70 | 129 => 78 | 317 => 77 | 318 => 79 | 319 => 80 | 320 => 81 | 337 => 87 | 338 => 88 | n => n, fun | 2 => 2 | 3 => 3 | 9 => 9 | 4 => 4 | 171 => 90 | 0 => 0 | 53 => 91 | 37 => 72 | 5 => 5 | 173 => 94 | 212 => 105 | 51 => 106 | 20 => 20 | 213 => 107 | 46 => 109 | 232 => 118 | 233 => 119 | n => n, fun | 17 => 0 | 18 => 4 | 19 => 5 | n => n⟩
theorem Tryd.fmtI : Go.Proofs.LaysM.n173 Tryd.prog Tryd.fmtI_ren where
  mixed := by kernel_rfl
  f129 := Tryd.func78.trans (congrArg some (by kernel_rfl))
  f173 := Tryd.func52.trans (congrArg some (by kernel_rfl))
  f246 := Tryd.func61.trans (congrArg some (by kernel_rfl))
  f283 := Tryd.func67.trans (congrArg some (by kernel_rfl))
  f284 := Tryd.func68.trans (congrArg some (by kernel_rfl))
  f285 := Tryd.func69.trans (congrArg some (by kernel_rfl))
  f286 := Tryd.func70.trans (congrArg some (by kernel_rfl))
  f317 := Tryd.func77.trans (congrArg some (by kernel_rfl))
  f318 := Tryd.func79.trans (congrArg some (by kernel_rfl))
  f319 := Tryd.func80.trans (congrArg some (by kernel_rfl))
  f320 := Tryd.func81.trans (congrArg some (by kernel_rfl))
  f337 := Tryd.func87.trans (congrArg some (by kernel_rfl))
  f338 := Tryd.func88.trans (congrArg some (by kernel_rfl))
  t0 := Tryd.underlying0
  a0 := Tryd.isAgg0
  z0 := Tryd.sizeOf0
  v0 := Tryd.zeroValue0
  t2 := Tryd.underlying2
  a2 := Tryd.isAgg2
  z2 := Tryd.sizeOf2
  v2 := Tryd.zeroValue2
  t3 := Tryd.underlying3
  a3 := Tryd.isAgg3
  z3 := Tryd.sizeOf3
  v3 := Tryd.zeroValue3
  t4 := Tryd.underlying4
  a4 := Tryd.isAgg4
  z4 := Tryd.sizeOf4
  v4 := Tryd.zeroValue4
  t5 := Tryd.underlying5
  a5 := Tryd.isAgg5
  z5 := Tryd.sizeOf5
  v5 := Tryd.zeroValue5
  t9 := Tryd.underlying9
  a9 := Tryd.isAgg9
  z9 := Tryd.sizeOf9
  v9 := Tryd.zeroValue9
  t20 := Tryd.underlying20
  a20 := Tryd.isAgg20
  z20 := Tryd.sizeOf20
  v20 := Tryd.zeroValue20
  t37 := Tryd.underlying72
  a37 := Tryd.isAgg72
  z37 := Tryd.sizeOf72
  v37 := Tryd.zeroValue72
  t46 := Tryd.underlying109
  a46 := Tryd.isAgg109
  z46 := Tryd.sizeOf109
  v46 := Tryd.zeroValue109
  t51 := Tryd.underlying106
  a51 := Tryd.isAgg106
  z51 := Tryd.sizeOf106
  v51 := Tryd.zeroValue106
  t53 := Tryd.underlying91
  a53 := Tryd.isAgg91
  z53 := Tryd.sizeOf91
  v53 := Tryd.zeroValue91
  t171 := Tryd.underlying90
  a171 := Tryd.isAgg90
  z171 := Tryd.sizeOf90
  v171 := Tryd.zeroValue90
  t173 := Tryd.underlying94
  a173 := Tryd.isAgg94
  z173 := Tryd.sizeOf94
  v173 := Tryd.zeroValue94
  t212 := Tryd.underlying105
  a212 := Tryd.isAgg105
  z212 := Tryd.sizeOf105
  v212 := Tryd.zeroValue105
  t213 := Tryd.underlying107
  a213 := Tryd.isAgg107
  z213 := Tryd.sizeOf107
  t232 := Tryd.underlying118
  a232 := Tryd.isAgg118
  z232 := Tryd.sizeOf118
  v232 := Tryd.zeroValue118
  t233 := Tryd.underlying119
  a233 := Tryd.isAgg119
  z233 := Tryd.sizeOf119
  v233 := Tryd.zeroValue119
  g17 := by kernel_rfl
  g18 := by kernel_rfl
  g19 := by kernel_rfl
  i0 := by kernel_rfl
  i2 := by kernel_rfl
  i3 := by kernel_rfl
  i4 := by kernel_rfl
  i5 := by kernel_rfl
  i9 := by kernel_rfl
  i20 := by kernel_rfl
  i37 := by kernel_rfl
  i46 := by kernel_rfl
  i51 := by kernel_rfl
  i53 := by kernel_rfl
  i171 := by kernel_rfl
  i173 := by kernel_rfl
  i212 := by kernel_rfl
  i232 := by kernel_rfl
  i233 := by kernel_rfl
  m17 := by kernel_rfl
  m18 := by kernel_rfl
  m19 := by kernel_rfl

def Tryd.joinS_ren : Go.Shelf.Ren := ⟨fun | 156 => 37 | 165 => 53 | 166 => 54 | 169 => 55 | 240 => 62 | 241 => 63 | 276 => 71 | 277 => 72 | n => n, fun | 31 => 47 | 9 => 9 | 3 => 3 | 4 => 4 | 0 => 0 | 20 => 20 | 72 => 74 | 76 => 78 | 70 => 71 | 37 => 72 | 75 => 77 | 127 => 87 | 164 => 96 | 5 => 5 | 80 => 46 | n => n, fun | n => n⟩
theorem Tryd.joinS : Go.Proofs.Lays.n156 Tryd.prog Tryd.joinS_ren where
  mixed := by kernel_rfl
  f156 := Tryd.func37.trans (congrArg some (by kernel_rfl))
  f165 := Tryd.func53.trans (congrArg some (by kernel_rfl))
  f166 := Tryd.func54.trans (congrArg some (by kernel_rfl))
  f169 := Tryd.func55.trans (congrArg some (by kernel_rfl))
  f240 := Tryd.func62.trans (congrArg some (by kernel_rfl))
  f241 := Tryd.func63.trans (congrArg some (by kernel_rfl))
  f276 := Tryd.func71.trans (congrArg some (by kernel_rfl))
  f277 := Tryd.func72.trans (congrArg some (by kernel_rfl))
  t0 := Tryd.underlying0
  a0 := Tryd.isAgg0
  z0 := Tryd.sizeOf0
  v0 := Tryd.zeroValue0
  t3 := Tryd.underlying3
  a3 := Tryd.isAgg3
  z3 := Tryd.sizeOf3
  v3 := Tryd.zeroValue3
  t4 := Tryd.underlying4
  a4 := Tryd.isAgg4
  z4 := Tryd.sizeOf4
  v4 := Tryd.zeroValue4
  t9 := Tryd.underlying9
  a9 := Tryd.isAgg9
  z9 := Tryd.sizeOf9
  v9 := Tryd.zeroValue9
  t20 := Tryd.underlying20
  a20 := Tryd.isAgg20
  z20 := Tryd.sizeOf20
  v20 := Tryd.zeroValue20
  t31 := Tryd.underlying47
  a31 := Tryd.isAgg47
  z31 := Tryd.sizeOf47
  v31 := Tryd.zeroValue47
  t37 := Tryd.underlying72
  a37 := Tryd.isAgg72
  z37 := Tryd.sizeOf72
  v37 := Tryd.zeroValue72
  t70 := Tryd.underlying71
  a70 := Tryd.isAgg71
  z70 := Tryd.sizeOf71
  v70 := Tryd.zeroValue71
  t72 := Tryd.underlying74
  a72 := Tryd.isAgg74
  z72 := Tryd.sizeOf74
  v72 := Tryd.zeroValue74
  t75 := Tryd.underlying77
  a75 := Tryd.isAgg77
  z75 := Tryd.sizeOf77
  v75 := Tryd.zeroValue77
  t76 := Tryd.underlying78
  a76 := Tryd.isAgg78
  z76 := Tryd.sizeOf78
  v76 := Tryd.zeroValue78
  t127 := Tryd.underlying87
  a127 := Tryd.isAgg87
  z127 := Tryd.sizeOf87
  v127 := Tryd.zeroValue87
  t164 := Tryd.underlying96
  a164 := Tryd.isAgg96
  z164 := Tryd.sizeOf96
  v164 := Tryd.zeroValue96

end Go.Proofs
namespace Go.Proofs.YtfmcncflooechaaDoor
open Go Go.Fw Go.Proofs Go.Lib
set_option maxRecDepth 100000
theorem relC' {w : World} {G : Nat → Prop} {x : A} {xs : List A} {vs : List Value} (h : RelL w G (x :: xs) vs []) : ∃ v us, vs = v :: us ∧ Rel w G x v [] ∧ RelL w G xs us [] := by
  generalize hF : ([] : List Nat) = F at h
  generalize hx : x :: xs = ys at h
  cases h with
  | nil => cases hx
  | cons h hl =>
    cases hx
    obtain ⟨rfl, rfl⟩ := List.append_eq_nil_iff.1 hF.symm
    exact ⟨_, _, rfl, h, hl⟩
def encS (c : List UInt8) : Value := .string (mkS c)
theorem relS' : ∀ {xs : List (List UInt8)} {w : World} {G : Nat → Prop} {vs : List Value} {F : List Nat}, RelL w G (xs.map str) vs F → vs = xs.map encS ∧ F = []
  | [], _, _, _, _, h => by cases h; exact ⟨rfl, rfl⟩
  | x :: xs, _, _, _, _, h => by
    cases h with
    | cons h hl =>
      obtain ⟨rfl, rfl⟩ := relS' hl
      cases h
      exact ⟨rfl, rfl⟩
theorem flatS' (xs : List (List UInt8)) : flat (xs.map str) = xs.map str := by
  induction xs with
  | nil => rfl
  | cons x xs ih => simp only [flat, List.map_cons, List.flatMap_cons] at *; rw [ih]; rfl
theorem c_FormatInt (n : Int) (h0 : -9223372036854775808 ≤ n) (h1 : n ≤ 9223372036854775807) : PCtr PP n_strconv_FormatInt [i64 n, i64 10] (str (Lib.itoa n)) := by
  refine ⟨fn_strconv_FormatInt.1, fun w G vs hG hl => ?_⟩
  obtain ⟨v1, us, rfl, h, hl⟩ := relC' hl
  obtain ⟨v2, us, rfl, h2, hl⟩ := relC' hl
  cases hl
  cases h
  cases h2
  have hg : ∃ g, PP.globalNamed tabName = some g := Option.isSome_iff_exists.1 (by kernel_rfl)
  obtain ⟨g, hg⟩ := hg
  refine Calls.mono (Any.strconv_FormatInt_10 Tryd.fmtI n h0 h1 w (hG.laid g hg).2) ?_
  rintro e w' ⟨rfl, k, os, rfl⟩
  exact ⟨_, [], rfl, ⟨rfl, rfl, rfl, by simp [Go.Sort.grow], fun b hb => Go.Sort.heap_grow_old (w.drewN k) os hb⟩, List.nodup_nil, by simp, .sc rfl⟩
theorem cells_at {w : World} {b o : Nat} {cur : Array Value} {e : TypeId} {fr : Nat × Nat} {j : Nat} {v : Value} (hh : w.heap[b]? = some (.cells cur e fr)) (hv : cur[o + j]? = some v) : w.cell? ⟨b, o + j, none⟩ = some v := by
  simp [World.cell?, hh, hv]
theorem c_Join (xs : List (List UInt8)) (sep : List UInt8) (hN : xs.length ≤ 140737488355328) (hlen : (Lib.join xs sep).length ≤ 140737488355328) :
    PCtr PP n_strings_Join [.sl false 1 (xs.map str), str sep] (str (Lib.join xs sep)) := by
  have X : Builder.Extra PP Tryd.joinS_ren := ⟨⟨by kernel_rfl, by kernel_rfl⟩, Tryd.underlying5, Tryd.isAgg5, Tryd.sizeOf5, Tryd.zeroValue5, by kernel_rfl, by kernel_rfl, by kernel_rfl, by decide⟩
  refine ⟨fn_strings_Join.1, fun w G vs hG hl => ?_⟩
  obtain ⟨v1, us, rfl, h, hl⟩ := relC' hl
  obtain ⟨v2, us, rfl, h2, hl⟩ := relC' hl
  cases hl
  cases h2
  have done : ∀ {v : Value}, Calls PP n_strings_Join #[v, .string (mkS sep)] w (fun e w' => e = .returned (.string (mkS (Lib.join xs sep))) ∧ Go.RowKit.Below w.heap.size w w') →
      Calls PP n_strings_Join [v, .string (mkS sep)].toArray w (fun e w' => ∃ v F, e = .returned v ∧ Go.RowKit.Below w.heap.size w w' ∧
        F.Nodup ∧ (∀ b ∈ F, w.heap.size ≤ b) ∧ Rel w' (fun b => (G b ∨ (w.heap.size ≤ b ∧ b < w'.heap.size)) ∧ b ∉ F) (str (Lib.join xs sep)) v F) := fun h => by
    refine Calls.mono h ?_
    rintro e w' ⟨rfl, hb⟩
    exact ⟨_, [], rfl, hb, List.nodup_nil, by simp, .sc rfl⟩
  generalize hys : xs.map str = ys at h
  have hnil : ∀ {a : Option Addr} {c : Nat}, ys = [] → Calls PP n_strings_Join #[.slice a 0 c, .string (mkS sep)] w (fun e w' => e = .returned (.string (mkS (Lib.join xs sep))) ∧ Go.RowKit.Below w.heap.size w w') := fun {a c} h0 => by
    have hx : xs = [] := by subst h0; cases xs with
      | nil => rfl
      | cons a b => cases hys
    subst hx
    exact (Any.strings_Join_none Tryd.joinS X a c (mkS sep) w).mono fun e w' ⟨he, hw⟩ => ⟨he, hw ▸ Go.RowKit.Below.refl _ _⟩
  cases h with
  | nils => exact done (hnil rfl)
  | roz => exact done (hnil rfl)
  | ro hh hg hw hlen1 hc hlr hcap hm =>
    rename_i b k len cap cur e fr cs
    subst hys
    rw [flatS'] at hlr
    obtain ⟨rfl, -⟩ := relS' hlr
    have hl2 : len = xs.length := by rw [hlen1, List.length_map]
    subst hl2
    have hd : ∀ l : List (List UInt8), (l.map mkS).map (·.data.toList) = l := fun l => by rw [List.map_map]; exact List.map_id' _
    have := Any.strings_Join Tryd.joinS X b k cap (xs.map mkS) (mkS sep) w (fun j x hj => ?_) (Array.getElem?_eq_some_iff.1 hh).1 (by rw [List.length_map]; exact hN) (by rw [List.length_map]; exact hcap) (by rw [hd]; exact hlen)
    · rw [hd, List.length_map] at this
      exact done this
    · obtain ⟨c, hc1, rfl⟩ : ∃ c, xs[j]? = some c ∧ mkS c = x := by simpa using hj
      refine cells_at hh ?_
      have h3 : (xs.map encS)[j]? = some (.string (mkS c)) := by rw [List.getElem?_map, hc1]; rfl
      rw [hc, Nat.mul_one, List.getElem?_take] at h3
      split at h3
      · simpa using h3
      · cases h3
end Go.Proofs.YtfmcncflooechaaDoor

/- Walks: numbers and versions as text. Plain theorems. -/
set_option linter.unusedVariables false
set_option linter.unusedSimpArgs false
namespace Go.Proofs.YtfmcncflooechaaDoor
open Go Go.Fw
set_option maxRecDepth 100000
theorem c_dec (n : Int) (h0 : -9223372036854775808 ≤ n) (h1 : n ≤ 9223372036854775807) : PCtr PP n_impl_dec [i64 n] (str (Lib.itoa n)) := by
  obtain ⟨Ω, hΩ⟩ : ∃ Ω, Ω = std := ⟨_, rfl⟩
  have hc := c_FormatInt n h0 h1
  have htab := tab
  generalize Lib.itoa n = r at *
  refine PCtr.walk tab hΩ fn_impl_dec rfl ?_
  generalize PP = P at *
  cbv
  refine call_pure hΩ 3 hc rfl (fits _) rfl rfl ?_
  cbv
  exact .of rfl
theorem decD_small {n : Nat} (h : n < 10) : Lib.decDigits n = [UInt8.ofNat (48 + n)] := by rw [Lib.decDigits, dif_pos h]
theorem decD_big {n : Nat} (h : 10 ≤ n) : Lib.decDigits n = Lib.decDigits (n / 10) ++ [UInt8.ofNat (48 + n % 10)] := by rw [Lib.decDigits, dif_neg (by omega)]
theorem decD_len : ∀ (k n : Nat), n < 10 ^ (k + 1) → (Lib.decDigits n).length ≤ k + 1
  | 0, n, h => by rw [decD_small (by simpa using h)]; simp
  | k + 1, n, h => by
    rcases Nat.lt_or_ge n 10 with h1 | h1
    · rw [decD_small h1]; simp
    · have := decD_len k (n / 10) (by rw [Nat.div_lt_iff_lt_mul (by decide)]; rw [Nat.pow_succ] at h; exact h)
      rw [decD_big h1, List.length_append, List.length_singleton]; omega
theorem byteOf {Ω : Opq} (hΩ : Ω = std) {n : Nat} (h : n < 10) : Ω.wrap .u8 (Ω.ar .add .i64 48 (n : Int)) = ((UInt8.ofNat (48 + n)).toNat : Int) := by
  subst hΩ
  show IntKind.u8.wrap (IntKind.i64.wrap (48 + n)) = _
  rw [wrap64 (by omega) (by omega), UInt8.toNat_ofNat']
  have e : (48 + n) % 2 ^ 8 = 48 + n := Nat.mod_eq_of_lt (by omega)
  rw [e]
  show ((48 + (n : Int)) % 256 : Int) = _
  omega
theorem c_l1Decimal (n : Nat) (hn : n < 1000000000000000000) : PCtr PP n_spec_l1Decimal [i64 (n : Int)] (str (Lib.decDigits n)) := by
  induction n using Nat.strongRecOn with
  | _ n ih =>
  obtain ⟨Ω, hΩ⟩ : ∃ Ω, Ω = std := ⟨_, rfl⟩
  have htab := tab
  have hmo : PP.follows .mixedOrders = true := by kernel_rfl
  obtain ⟨r, hr⟩ : ∃ r, r = Lib.decDigits n := ⟨_, rfl⟩
  rw [← hr]
  refine PCtr.walk tab hΩ fn_spec_l1Decimal rfl ?_
  generalize PP = P at *
  cbv
  refine br (fun h => ?_) (fun h => ?_)
  · replace h : n < 10 := by have h : (n : Int) < 10 := ltZt hΩ h; omega
    obtain ⟨c, hc⟩ : ∃ c, c = UInt8.ofNat (48 + n) := ⟨_, rfl⟩
    have hb := byteOf hΩ h
    have hr2 := (hr.trans (decD_small h)).symm
    rw [← hc] at hb hr2
    cbv
    refine ⟨[c], ⟨Nat.le_refl _, congrArg (fun z => [A.sc (.int .u8 z)]) hb⟩, ?_⟩
    cbv
    exact .of (congrArg str hr2)
  · replace h : 10 ≤ n := by have h : (10 : Int) ≤ n := ltZf hΩ h; omega
    have hcm := ih (n / 10) (by omega) (by omega)
    have hr2 := (hr.trans (decD_big h)).symm
    have hlen := decD_len 17 (n / 10) (by omega)
    have hq : Ω.ar .quo .i64 (n : Int) 10 = ((n / 10 : Nat) : Int) := by
      subst hΩ
      show IntKind.i64.wrap ((n : Int).tdiv 10) = _
      rw [Int.tdiv_eq_ediv_of_nonneg (by omega), wrap64 (by omega) (by omega)]; rfl
    have hm : Ω.ar .rem .i64 (n : Int) 10 = ((n % 10 : Nat) : Int) := by
      subst hΩ
      show (n : Int).tmod 10 = _
      rw [Int.tmod_eq_emod_of_nonneg (by omega)]; rfl
    obtain ⟨c, hc⟩ : ∃ c, c = UInt8.ofNat (48 + n % 10) := ⟨_, rfl⟩
    have hb := byteOf hΩ (show n % 10 < 10 by omega)
    rw [← hc] at hb hr2
    rw [← hm] at hb
    generalize Lib.decDigits (n / 10) = q at *
    generalize n / 10 = m at *
    have hcat : Ω.cat q [c] = r := by subst hΩ; exact hr2
    have hll : ((q.length + [c].length : Nat) : Int) ≤ 9223372036854775807 := by rw [List.length_singleton]; omega
    cbv
    refine ⟨VC_order htab hΩ hmo [0, 1, 3, 4, 5] (.two 2 (.step 6 (.step 7 (.step 8 (.step 9 (.step 10 .fin))))) 6 (.two 2 (.step 7 (.step 8 (.step 9 (.step 10 .fin)))) 7 (.two 2 (.step 8 (.step 9 (.step 10 .fin))) 8 (.step 2 (.step 9 (.step 10 .fin)))))) (by kernel_rfl) ?_⟩
    cbv
    refine ⟨⟨by decide⟩, ⟨by decide⟩, ?_⟩
    repeat' (first
      | (refine call_pure hΩ 3 hcm rfl (fitsE (congrArg (fun z => [i64 z]) hq)) rfl rfl ?_; cbv)
      | (refine ⟨[c], ⟨Nat.le_refl _, congrArg (fun z => [A.sc (.int .u8 z)]) hb⟩, ?_⟩; cbv)
      | (refine ⟨⟨hll⟩, ?_⟩; cbv)
      | exact .of (congrArg str hcat)
      | refine ⟨?_, ?_⟩)
theorem verF_in {v : Ver} (h : verF v = 0) : (0 ≤ v.a ∧ v.a ≤ 999) ∧ (0 ≤ v.b ∧ v.b ≤ 999) ∧ (0 ≤ v.c ∧ v.c ≤ 999) := by
  unfold verF at h
  split at h
  · rename_i h2
    simp only [Bool.and_eq_true, inB, decide_eq_true_eq] at h2
    omega
  · cases h
theorem itoa_dec {n : Int} (h : 0 ≤ n) : Lib.itoa n = Lib.decDigits n.toNat := by unfold Lib.itoa; exact if_neg (by omega)
theorem itoa_len {n : Int} (h0 : 0 ≤ n) (h1 : n ≤ 999) : (Lib.itoa n).length ≤ 3 := by rw [itoa_dec h0]; exact decD_len 2 _ (by omega)
theorem c_implText (v : Ver) (hv : verF v = 0) : PCtr PP n_impl_Version_text [v.enc] (str (Lib.itoa v.a ++ [46] ++ Lib.itoa v.b ++ [46] ++ Lib.itoa v.c)) := by
  obtain ⟨Ω, hΩ⟩ : ∃ Ω, Ω = std := ⟨_, rfl⟩
  have htab := tab
  have hmo : PP.follows .mixedOrders = true := by kernel_rfl
  have hv' := verF_in hv
  have ha := c_dec v.a (by omega) (by omega)
  have hb := c_dec v.b (by omega) (by omega)
  have hc := c_dec v.c (by omega) (by omega)
  have la := itoa_len (n := v.a) (by omega) (by omega)
  have lb := itoa_len (n := v.b) (by omega) (by omega)
  have lc := itoa_len (n := v.c) (by omega) (by omega)
  refine PCtr.walk tab hΩ fn_impl_Version_text rfl ?_
  obtain ⟨a, b, c⟩ := v
  dsimp only at *
  generalize Lib.itoa a = ra at *
  generalize Lib.itoa b = rb at *
  generalize Lib.itoa c = rc at *
  obtain ⟨r, hr⟩ : ∃ r, r = ra ++ [46] ++ rb ++ [46] ++ rc := ⟨_, rfl⟩
  have hcat : Ω.cat (Ω.cat (Ω.cat (Ω.cat ra [46]) rb) [46]) rc = r := by subst hΩ; exact hr.symm
  have l1 : (Ω.cat ra [46]).length ≤ 4 := by subst hΩ; show (ra ++ [46]).length ≤ 4; simp; omega
  have l2 : (Ω.cat (Ω.cat ra [46]) rb).length ≤ 7 := by subst hΩ; show (ra ++ [46] ++ rb).length ≤ 7; simp; omega
  have l3 : (Ω.cat (Ω.cat (Ω.cat ra [46]) rb) [46]).length ≤ 8 := by subst hΩ; show (ra ++ [46] ++ rb ++ [46]).length ≤ 8; simp; omega
  have o1 : ((ra.length + [(46 : UInt8)].length : Nat) : Int) ≤ 9223372036854775807 := by rw [List.length_singleton]; omega
  have o2 : (((Ω.cat ra [46]).length + rb.length : Nat) : Int) ≤ 9223372036854775807 := by omega
  have o3 : (((Ω.cat (Ω.cat ra [46]) rb).length + [(46 : UInt8)].length : Nat) : Int) ≤ 9223372036854775807 := by rw [List.length_singleton]; omega
  have o4 : (((Ω.cat (Ω.cat (Ω.cat ra [46]) rb) [46]).length + rc.length : Nat) : Int) ≤ 9223372036854775807 := by omega
  rw [← hr]
  generalize PP = P at *
  cbv
  refine ⟨VC_drawn htab hΩ hmo (by kernel_rfl) ?_⟩
  cbv
  refine QCall_pure (k := 3) ha rfl (fits _) rfl ?_
  cbv
  refine ⟨⟨o1⟩, ?_⟩
  refine QCall_pure (k := 3) hb rfl (fits _) rfl ?_
  cbv
  refine ⟨⟨o2⟩, ⟨o3⟩, ?_⟩
  refine QCall_pure (k := 3) hc rfl (fits _) rfl ?_
  cbv
  refine ⟨⟨o4⟩, ?_⟩
  cbv
  exact .of (congrArg str hcat)
end Go.Proofs.YtfmcncflooechaaDoor

/- Walks: sizes of packages. Plain theorems. -/
set_option linter.unusedVariables false
set_option linter.unusedSimpArgs false
namespace Go.Proofs.YtfmcncflooechaaDoor
open Go Go.Fw
set_option maxRecDepth 100000
def szN (n : Nat) (l : Int) : Int := if l - n < 0 then -1 else l - n
def szT (t : Trm) (l : Int) : Int := szN t.n.length l
end Go.Proofs.YtfmcncflooechaaDoor

/- Walks: copies. Plain theorems. -/
set_option linter.unusedVariables false
set_option linter.unusedSimpArgs false
namespace Go.Proofs.YtfmcncflooechaaDoor
open Go Go.Fw
set_option maxRecDepth 100000
/-- A slice that is filled from the left. -/
theorem c_toVersion (v : Ver) : PCtr PP n_laws_toVersion [v.enc] v.enc := by
  obtain ⟨Ω, hΩ⟩ : ∃ Ω, Ω = std := ⟨_, rfl⟩
  refine PCtr.walk tab hΩ fn_laws_toVersion rfl ?_
  generalize PP = P
  cbv
  exact .same
end Go.Proofs.YtfmcncflooechaaDoor

/- Walks: what is equal is told so. Plain theorems. -/
set_option linter.unusedVariables false
set_option linter.unusedSimpArgs false
namespace Go.Proofs.YtfmcncflooechaaDoor
open Go Go.Fw
set_option maxRecDepth 100000
theorem c_eqVersion (v : Ver) : PCtr PP n_laws_eqVersion [v.enc, v.enc] (boo true) := by
  obtain ⟨Ω, hΩ⟩ : ∃ Ω, Ω = std := ⟨_, rfl⟩
  have htab := tab
  have hmo := hmo
  refine PCtr.walk tab hΩ fn_laws_eqVersion rfl ?_
  generalize PP = P at *
  cbv
  repeat' (first | (refine br (fun h => (notT hΩ h).elim) (fun h => ?_); cbv) | (refine br (fun h => (ne_self hΩ h).elim) (fun h => ?_); cbv) | (refine br (fun h => (sne_self hΩ h).elim) (fun h => ?_); cbv) | (refine ⟨VC_drawn htab hΩ hmo (by kernel_rfl) ?_⟩; cbv))
  exact .same
end Go.Proofs.YtfmcncflooechaaDoor

/- Walks: changes: sizes, copies, equality, marks. Plain theorems. -/
set_option linter.unusedVariables false
set_option linter.unusedSimpArgs false
namespace Go.Proofs.YtfmcncflooechaaDoor
open Go Go.Fw
set_option maxRecDepth 100000
theorem c_szChange (c : Chg) (l : Int) : PCtr PP n_laws_szChange [c.enc, i64 l] (i64 (szStr c.n l)) := by
  obtain ⟨Ω, hΩ⟩ : ∃ Ω, Ω = std := ⟨_, rfl⟩
  obtain ⟨r, hr⟩ : ∃ r, r = szStr c.n l := ⟨_, rfl⟩
  rw [← hr]
  refine PCtr.walk tab hΩ fn_laws_szChange rfl ?_
  generalize PP = P at *
  cbv
  refine br (fun h => ?_) (fun h => ?_)
  · replace h : r = -1 := by subst hΩ; rw [hr, szStr]; exact if_pos (lt_t h)
    cbv
    exact .of (congrArg i64 h.symm)
  · replace h : r = IntKind.i64.wrap (l - c.n.length) := by subst hΩ; rw [hr, szStr]; exact if_neg (Int.not_lt.2 (lt_f h))
    cbv
    exact .of (by subst hΩ; exact congrArg i64 h.symm)
theorem c_szChangeS (cs : List Chg) (l : Int) (h0 : 0 ≤ l) (h1 : l ≤ 1048576) (hm : cs.length ≤ maxLen) : PCtr PP n_laws_szChangeS [.sl false 8 (cs.map Chg.enc), i64 l] (i64 (szS (fun c => szStr c.n) cs l)) := by
  obtain ⟨Ω, hΩ⟩ : ∃ Ω, Ω = std := ⟨_, rfl⟩
  obtain ⟨r, hr⟩ : ∃ r, r = szS (fun (c : Chg) => szStr c.n) cs l := ⟨_, rfl⟩
  obtain ⟨xs, hxs⟩ : ∃ xs, xs = cs.map Chg.enc := ⟨_, rfl⟩
  have hlen : xs.length = cs.length := by rw [hxs, List.length_map]
  rw [← hxs, ← hr]
  have hc := c_szChange
  have htab := tab
  refine PCtr.walk tab hΩ fn_laws_szChangeS rfl ?_
  generalize PP = P at *
  cbv
  refine br (fun h => ?_) (fun h => ?_)
  · replace h : r = -1 := by
      subst hΩ
      have h : IntKind.i64.wrap (l - xs.length) < 0 := lt_t h
      rw [hlen, szw h0 h1 hm] at h
      rw [hr, szS, if_pos h]
    cbv
    exact .of (congrArg i64 h.symm)
  obtain ⟨l', hl', h, hr⟩ : ∃ l', IntKind.i64.wrap (l - xs.length) = l' ∧ (0 ≤ l' ∧ l' ≤ 1048576) ∧ r = szLoop (fun (c : Chg) => szStr c.n) cs l' := by
    subst hΩ
    have h : 0 ≤ IntKind.i64.wrap (l - xs.length) := lt_f h
    rw [hlen, szw h0 h1 hm] at h ⊢
    exact ⟨_, rfl, ⟨h, by omega⟩, by rw [hr, szS, if_neg (by omega)]⟩
  cbv
  refine loopX htab hΩ (fun i : Nat × Int => ⟨[(0, .sl false 8 xs), (1, .sc (.int .i64 i.2)), (5, .sc (.int .i64 (Ω.int i.1)))], 27, []⟩) (fun i => i.1 ≤ cs.length ∧ 0 ≤ i.2 ∧ r = szLoop (fun (c : Chg) => szStr c.n) (cs.drop i.1) i.2)
    (fun i => cs.length - i.1) (0, l') ⟨Nat.zero_le _, h.1, hr⟩ (Sbs.mk rfl rfl ⟨rfl, by subst hΩ; exact congrArg i64 hl', by subst hΩ; rfl, trivial⟩) ?_
  rintro ⟨i, y⟩ ⟨hi, hy, he⟩
  dsimp only at hi hy he
  cbv
  refine br (fun h => ?_) (fun h => ?_)
  · replace h : i < cs.length := by subst hΩ; have h : (i : Int) < xs.length := lt_t h; omega
    obtain ⟨c, hcc⟩ : ∃ c, cs[i]? = some c := ⟨_, List.getElem?_eq_getElem (by omega)⟩
    rw [szLoop_at _ hcc] at he
    cbv
    refine ⟨⟨by subst hΩ; exact Int.natCast_nonneg i⟩, c.enc, by subst hΩ; show xs[i]? = _; rw [hxs, List.getElem?_map, hcc]; rfl, ?_⟩
    cbv
    have hcc' := hc c y
    generalize szStr c.n y = y' at he hcc'
    refine ⟨CallOK_pure (k := 3) hcc' rfl (fits _) (by cbv) (by cbv) ?_⟩
    cbv
    refine br (fun h => ?_) (fun h => ?_)
    · replace h : y' < 0 := by subst hΩ; exact lt_t h
      cbv
      exact .of (congrArg i64 (by rw [he, if_pos h]))
    · replace h : 0 ≤ y' := by subst hΩ; exact lt_f h
      cbv
      refine ⟨(i + 1, y'), ⟨by dsimp only; omega, h, by rw [he, if_neg (by omega)]⟩, by dsimp only; omega, Sbs.mk rfl rfl ⟨rfl, rfl, by subst hΩ; exact congrArg i64 (inc64 (n := i) (by simp only [maxLen] at hm; omega)), trivial⟩⟩
  · replace h : i = cs.length := by subst hΩ; have h : (xs.length : Int) ≤ i := lt_f h; omega
    subst h
    cbv
    exact .of (congrArg i64 (by rw [he, List.drop_length]; rfl))
theorem c_toChange (v : Chg) : PCtr PP n_laws_toChange [v.enc] v.enc := by
  obtain ⟨Ω, hΩ⟩ : ∃ Ω, Ω = std := ⟨_, rfl⟩
  refine PCtr.walk tab hΩ fn_laws_toChange rfl ?_
  have hc := c_toVersion
  generalize PP = P at *
  cbv
  refine ⟨CallOK_pure (k := 3) (hc v.o) rfl (fits _) (by cbv) (by cbv) ?_⟩
  cbv
  refine ⟨CallOK_pure (k := 3) (hc v.w) rfl (fits _) (by cbv) (by cbv) ?_⟩
  cbv
  exact .same
/-- A slice that is filled from the left. -/
theorem c_toChangeS (cs : List Chg) (hb : cs.length ≤ 1048576) : PCtr PP n_laws_toChangeS [.sl false 8 (cs.map Chg.enc)] (.sl true 8 (cs.map Chg.enc)) := by
  obtain ⟨Ω, hΩ⟩ : ∃ Ω, Ω = std := ⟨_, rfl⟩
  obtain ⟨xs, hxs⟩ : ∃ xs, xs = cs.map Chg.enc := ⟨_, rfl⟩
  obtain ⟨n, hn⟩ : ∃ n, n = cs.length := ⟨_, rfl⟩
  have hlen : xs.length = n := by rw [hxs, hn, List.length_map]
  obtain ⟨ys, hys⟩ : ∃ ys : Nat → List A, ys = fill Chg.enc Chg.zero.enc cs := ⟨_, rfl⟩
  rw [← hxs]
  have hc := c_toChange
  refine PCtr.walk tab hΩ fn_laws_toChangeS rfl ?_
  have htab := tab
  generalize PP = P at *
  cbv
  refine ⟨⟨by subst hΩ; show _ ∧ (0 : Int) ≤ xs.length ∧ 72 * ((xs.length : Int).toNat) ≤ _ ∧ (xs.length : Int).toNat ≤ 9223372036854775807; rw [hlen]; refine ⟨rfl, ?_, ?_, ?_⟩ <;> omega⟩,
    loopX htab hΩ (fun i : Nat => ⟨[(0, .sl false 8 xs), (3, .vw 0 0 n), (4, .sc (.int .i64 (Ω.int i)))], 23, [some ⟨8, ys i, false⟩]⟩) (fun i => i ≤ n) (fun i => n - i) 0 (Nat.zero_le _) (Sbs.mk rfl ?_ ?_) (fun i hi => ?_)⟩
  · subst hΩ; rw [hys, fill_zero, ← hn, ← hlen]; rfl
  · subst hΩ; subst hlen; exact ⟨rfl, rfl, rfl, trivial⟩
  cbv
  refine br (fun h => ?_) (fun h => ?_)
  · replace h : i < n := by subst hΩ; have h : (i : Int) < xs.length := lt_t h; omega
    obtain ⟨c, hcc⟩ : ∃ c, cs[i]? = some c := ⟨_, List.getElem?_eq_getElem (by omega)⟩
    cbv
    refine ⟨⟨by subst hΩ; exact Int.natCast_nonneg i⟩, c.enc, by subst hΩ; show xs[i]? = _; rw [hxs, List.getElem?_map, hcc]; rfl, ?_⟩
    cbv
    refine ⟨CallOK_pure (k := 3) (hc c) rfl (fits _) (by cbv) (by cbv) ?_⟩
    cbv
    have hl2 : (ys i).length = n := by rw [hys, hn]; exact fill_length (by omega)
    refine ⟨⟨by subst hΩ; exact ⟨Int.natCast_nonneg i, Int.ofNat_lt.2 h⟩⟩, ⟨by subst hΩ; show 0 + i < _ ∧ _; rw [hl2]; exact ⟨by omega, by rw [hys]; exact fill_all (fun _ => rfl) rfl⟩⟩,
      i + 1, by omega, by omega, Sbs.mk rfl ?_ ?_⟩
    · subst hΩ; rw [hys, ← fill_set hcc, ← hys]; show [some (Row.mk 8 ((ys i).set (0 + i) c.enc) false)] = _; rw [Nat.zero_add]
    · subst hΩ; exact ⟨rfl, rfl, congrArg i64 (inc64 (by omega)), trivial⟩
  · replace h : i = n := by subst hΩ; have h : (xs.length : Int) ≤ i := lt_f h; omega
    cbv
    refine ⟨⟨rfl, ?_⟩, .of ?_⟩
    · rw [hys, hn]; exact Nat.le_of_eq (fill_length (f := Chg.enc) (z := Chg.zero.enc) (cs := cs) (i := i) (by omega)).symm
    · rw [h, hys, hxs, hn, fill_full]; subst hΩ; exact congrArg (A.sl true 8) (List.take_of_length_le (by simp))
set_option maxRecDepth 100000
theorem c_eqChange (v : Chg) : PCtr PP n_laws_eqChange [v.enc, v.enc] (boo true) := by
  obtain ⟨Ω, hΩ⟩ : ∃ Ω, Ω = std := ⟨_, rfl⟩
  refine PCtr.walk tab hΩ fn_laws_eqChange rfl ?_
  have hc := c_eqVersion
  generalize PP = P at *
  cbv
  refine br (fun h => (ne_self hΩ h).elim) (fun h => ?_)
  cbv
  refine br (fun h => (sne_self hΩ h).elim) (fun h => ?_)
  cbv
  refine ⟨CallOK_pure (k := 3) (hc v.o) rfl (fits _) (by cbv) (by cbv) ?_⟩
  cbv
  refine br (fun h => (notT hΩ h).elim) (fun h => ?_)
  cbv
  refine ⟨CallOK_pure (k := 3) (hc v.w) rfl (fits _) (by cbv) (by cbv) ?_⟩
  cbv
  refine br (fun h => (notT hΩ h).elim) (fun h => ?_)
  cbv
  exact .same
theorem c_eqChangeS (cs : List Chg) (hb : cs.length ≤ 9223372036854775806) : PCtr PP n_laws_eqChangeS [.sl false 8 (cs.map Chg.enc), .sl false 8 (cs.map Chg.enc)] (boo true) := by
  obtain ⟨Ω, hΩ⟩ : ∃ Ω, Ω = std := ⟨_, rfl⟩
  obtain ⟨xs, hxs⟩ : ∃ xs, xs = cs.map Chg.enc := ⟨_, rfl⟩
  have hlen : xs.length = cs.length := by rw [hxs, List.length_map]
  rw [← hxs]
  have hc := c_eqChange
  have htab := tab
  have hmo := hmo
  refine PCtr.walk tab hΩ fn_laws_eqChangeS rfl ?_
  generalize PP = P at *
  cbv
  refine br (fun h => (ne_self hΩ h).elim) (fun h => ?_)
  cbv
  refine loopX htab hΩ (fun i : Nat => ⟨[(0, .sl false 8 xs), (1, .sl false 8 xs), (5, .sc (.int .i64 (Ω.int i)))], 27, []⟩) (fun i => i ≤ cs.length) (fun i => cs.length - i) 0 (Nat.zero_le _) (Sbs.mk rfl rfl ⟨rfl, rfl, zeroI hΩ, trivial⟩) (fun i hi => ?_)
  cbv
  refine br (fun h => ?_) (fun h => ?_)
  · replace h := ltI hΩ h
    obtain ⟨c, hcc⟩ := at_of (cs := cs) (by omega : i < _)
    cbv
    refine ⟨VC_drawn htab hΩ hmo (by kernel_rfl) ?_⟩
    cbv
    refine ⟨⟨nnI hΩ⟩, _, rdI hΩ hxs hcc, ?_⟩
    cbv
    refine ⟨⟨nnI hΩ⟩, _, rdI hΩ hxs hcc, ?_⟩
    cbv
    refine QCall_pure (k := 3) (hc c) rfl (fits _) rfl ?_
    cbv
    refine br (fun h => (notT hΩ h).elim) (fun h => ?_)
    cbv
    refine ⟨i + 1, by omega, by omega, Sbs.mk rfl rfl ⟨rfl, rfl, incI hΩ (by omega), trivial⟩⟩
  · cbv
    exact .same
set_option maxRecDepth 100000
end Go.Proofs.YtfmcncflooechaaDoor

/- Walks: changes as text. Plain theorems. -/
set_option linter.unusedVariables false
set_option linter.unusedSimpArgs false
namespace Go.Proofs.YtfmcncflooechaaDoor
open Go Go.Fw
set_option maxRecDepth 100000
/-- A version's text. -/
def verT (v : Ver) : List UInt8 := Lib.itoa v.a ++ [46] ++ Lib.itoa v.b ++ [46] ++ Lib.itoa v.c
theorem verT_len {v : Ver} (h : verF v = 0) : (verT v).length ≤ 11 := by
  have h := verF_in h
  have la := itoa_len (n := v.a) (by omega) (by omega)
  have lb := itoa_len (n := v.b) (by omega) (by omega)
  have lc := itoa_len (n := v.c) (by omega) (by omega)
  simp [verT]; omega
theorem c_text (v : Ver) (hv : verF v = 0) : PCtr PP n_impl_Version_text [v.enc] (str (verT v)) := c_implText v hv
theorem c_specFormatVersion (v : Ver) (hv : verF v = 0) : PCtr PP n_spec_FormatVersion [v.enc] (str (verT v)) := by
  obtain ⟨Ω, hΩ⟩ : ∃ Ω, Ω = std := ⟨_, rfl⟩
  have htab := tab
  have hmo : PP.follows .mixedOrders = true := by kernel_rfl
  have hv' := verF_in hv
  have hD : ∀ n : Int, 0 ≤ n → n ≤ 999 → PCtr PP n_spec_l1Decimal [i64 n] (str (Lib.itoa n)) := fun n h0 h1 => by
    have := c_l1Decimal n.toNat (by omega)
    rw [Int.toNat_of_nonneg h0] at this
    rw [itoa_dec h0]; exact this
  have ha := hD v.a (by omega) (by omega)
  have hb := hD v.b (by omega) (by omega)
  have hc := hD v.c (by omega) (by omega)
  have la := itoa_len (n := v.a) (by omega) (by omega)
  have lb := itoa_len (n := v.b) (by omega) (by omega)
  have lc := itoa_len (n := v.c) (by omega) (by omega)
  have hf := c_specVersionFault v
  rw [hv] at hf
  clear hD
  unfold verT
  refine PCtr.walk tab hΩ fn_spec_FormatVersion rfl ?_
  obtain ⟨a, b, c⟩ := v
  dsimp only at *
  generalize Lib.itoa a = ra at *
  generalize Lib.itoa b = rb at *
  generalize Lib.itoa c = rc at *
  obtain ⟨r, hr⟩ : ∃ r, r = ra ++ [46] ++ rb ++ [46] ++ rc := ⟨_, rfl⟩
  have hcat : Ω.cat (Ω.cat (Ω.cat (Ω.cat ra [46]) rb) [46]) rc = r := by subst hΩ; exact hr.symm
  have l1 : (Ω.cat ra [46]).length ≤ 4 := by subst hΩ; show (ra ++ [46]).length ≤ 4; simp; omega
  have l2 : (Ω.cat (Ω.cat ra [46]) rb).length ≤ 7 := by subst hΩ; show (ra ++ [46] ++ rb).length ≤ 7; simp; omega
  have l3 : (Ω.cat (Ω.cat (Ω.cat ra [46]) rb) [46]).length ≤ 8 := by subst hΩ; show (ra ++ [46] ++ rb ++ [46]).length ≤ 8; simp; omega
  have o1 : ((ra.length + [(46 : UInt8)].length : Nat) : Int) ≤ 9223372036854775807 := by rw [List.length_singleton]; omega
  have o2 : (((Ω.cat ra [46]).length + rb.length : Nat) : Int) ≤ 9223372036854775807 := by omega
  have o3 : (((Ω.cat (Ω.cat ra [46]) rb).length + [(46 : UInt8)].length : Nat) : Int) ≤ 9223372036854775807 := by rw [List.length_singleton]; omega
  have o4 : (((Ω.cat (Ω.cat (Ω.cat ra [46]) rb) [46]).length + rc.length : Nat) : Int) ≤ 9223372036854775807 := by omega
  rw [← hr]
  generalize PP = P at *
  cbv
  refine call_pure hΩ 3 hf rfl (fits _) rfl rfl ?_
  cbv
  refine br (fun h => (ne_self hΩ h).elim) (fun h => ?_)
  cbv
  refine ⟨VC_drawn htab hΩ hmo (by kernel_rfl) ?_⟩
  cbv
  refine QCall_pure (k := 3) ha rfl (fits _) rfl ?_
  cbv
  refine ⟨⟨o1⟩, ?_⟩
  refine QCall_pure (k := 3) hb rfl (fits _) rfl ?_
  cbv
  refine ⟨⟨o2⟩, ⟨o3⟩, ?_⟩
  refine QCall_pure (k := 3) hc rfl (fits _) rfl ?_
  cbv
  refine ⟨⟨o4⟩, ?_⟩
  cbv
  exact .of (congrArg str hcat)
theorem c_joined (xs : List (List UInt8)) (hN : xs.length ≤ 140737488355328) (hlen : (Lib.join xs [32]).length ≤ 140737488355328) :
    PCtr PP n_impl_joined [.sl false 1 (xs.map str)] (str (Lib.join xs [32])) := by
  obtain ⟨Ω, hΩ⟩ : ∃ Ω, Ω = std := ⟨_, rfl⟩
  have hc := c_Join xs [32] hN hlen
  have htab := tab
  generalize Lib.join xs [32] = r at *
  generalize xs.map str = ys at *
  refine PCtr.walk tab hΩ fn_impl_joined rfl ?_
  generalize PP = P at *
  cbv
  refine call_pure hΩ 3 hc (mapO2 rfl rfl) (fits _) rfl rfl ?_
  cbv
  exact .of rfl
/-- A change that can be told. -/
def told (x : Chg) : Bool :=
  decide (nameF x.n = 0) && (decide (verF x.o = 0) && (decide (verF x.w = 0) && (if x.k = 1 then decide (x.o = Ver.zero) else if x.k = 2 then decide (x.w = Ver.zero) else decide (x.k = 3))))
theorem c_isTold (x : Chg) : PCtr PP n_impl_isTold [x.enc] (boo (told x)) := by
  obtain ⟨Ω, hΩ⟩ : ∃ Ω, Ω = std := ⟨_, rfl⟩
  have htab := tab
  have hve := verEq
  obtain ⟨T', hT⟩ : ∃ T', T' = told x := ⟨_, rfl⟩
  rw [← hT]
  unfold told at hT
  have h1 := c_implNameFault x.n
  have h2 := c_implVersionFault x.o
  have h3 := c_implVersionFault x.w
  generalize nameF x.n = N at *
  generalize verF x.o = O at *
  generalize verF x.w = W at *
  refine PCtr.walk tab hΩ fn_impl_isTold rfl ?_
  obtain ⟨k, n, o, w⟩ := x
  dsimp only at *
  generalize PP = P at *
  cbv
  repeat' (first
    | (refine br (fun hh => ?_) (fun hh => ?_) <;> (repeat' (first | replace hh := iteA hΩ hh | replace hh := iteB hΩ hh)) <;> (first | replace hh := neZt hΩ hh | replace hh := neZf hΩ hh | replace hh := eqZt hΩ hh | replace hh := eqZf hΩ hh | replace hh := ltZt hΩ hh | replace hh := ltZf hΩ hh | replace hh := geZt hΩ hh | replace hh := geZf hΩ hh | replace hh := gtZt hΩ hh | replace hh := gtZf hΩ hh | replace hh := leZt hΩ hh | replace hh := leZf hΩ hh | replace hh := notA hΩ hh | replace hh := notB hΩ hh | skip) <;> (first | (exfalso; (first | omega | (cases hh; done) | (simp_all; done))) | cbv))
    | (refine call_pure hΩ 3 h1 rfl (fits _) rfl rfl ?_; cbv)
    | (refine call_pure hΩ 3 h2 rfl (fits _) rfl rfl ?_; cbv)
    | (refine call_pure hΩ 3 h3 rfl (fits _) rfl rfl ?_; cbv)
    | (refine eqX_eql hve o Ver.zero ?_; cbv)
    | (refine eqX_eql hve w Ver.zero ?_; cbv))
  all_goals refine .of (congrArg boo ?_)
  all_goals clear htab hve h1 h2 h3
  all_goals rw [hT]
  all_goals first
    | (simp [*]; done)
    | (simp only [decide_eq_true ‹N = 0›, decide_eq_true ‹O = 0›, decide_eq_true ‹W = 0›, Bool.true_and, if_pos ‹k = 1›]; rfl)
    | (simp only [decide_eq_true ‹N = 0›, decide_eq_true ‹O = 0›, decide_eq_true ‹W = 0›, Bool.true_and, if_neg ‹¬ k = 1›, if_pos ‹k = 2›]; rfl)
    | (simp only [decide_eq_true ‹N = 0›, decide_eq_true ‹O = 0›, decide_eq_true ‹W = 0›, Bool.true_and, if_neg ‹¬ k = 1›, if_neg ‹¬ k = 2›]; subst hΩ; rfl)
/-- The words of its line. -/
def wordsT (x : Chg) : List (List UInt8) := if x.k = 2 then [[45], x.n, verT x.o] else if x.k = 3 then [[42], x.n, verT x.o, verT x.w] else [[43], x.n, verT x.w]
def lineT (x : Chg) : List UInt8 := Lib.join (wordsT x) [32] ++ [10]
def lineC (x : Chg) : List UInt8 := if told x then lineT x else []
theorem obC {a b : List UInt8} (h : a.length + b.length ≤ 1000000000) : ((a.length + b.length : Nat) : Int) ≤ 9223372036854775807 := by omega
theorem catL {Ω : Opq} (hΩ : Ω = std) {a b : List UInt8} : (Ω.cat a b).length = a.length + b.length := by subst hΩ; exact List.length_append
theorem nameF_len {n : List UInt8} (h : nameF n = 0) : n.length ≤ 12 := by
  unfold nameF at h
  split at h
  · cases h
  · split at h
    · cases h
    · omega
theorem join3 (a b c : List UInt8) : Lib.join [a, b, c] [32] = a ++ [32] ++ b ++ [32] ++ c := by simp [Lib.join]
theorem join4 (a b c d : List UInt8) : Lib.join [a, b, c, d] [32] = a ++ [32] ++ b ++ [32] ++ c ++ [32] ++ d := by simp [Lib.join]
theorem told_of {x : Chg} (h : told x = true) : nameF x.n = 0 ∧ verF x.o = 0 ∧ verF x.w = 0 := by
  unfold told at h
  simp only [Bool.and_eq_true, decide_eq_true_eq] at h
  exact ⟨h.1, h.2.1, h.2.2.1⟩
theorem lineT_len {x : Chg} (h : told x = true) : (lineT x).length ≤ 39 ∧ 0 < (lineT x).length := by
  obtain ⟨h1, h2, h3⟩ := told_of h
  have l1 := nameF_len h1
  have l2 := verT_len h2
  have l3 := verT_len h3
  unfold lineT wordsT
  split
  · rw [join3]; simp; omega
  · split
    · rw [join4]; simp; omega
    · rw [join3]; simp; omega
theorem lineT_eq (x : Chg) : lineT x = if x.k = 2 then [45, 32] ++ x.n ++ [32] ++ verT x.o ++ [10] else if x.k = 3 then [42, 32] ++ x.n ++ [32] ++ verT x.o ++ [32] ++ verT x.w ++ [10] else [43, 32] ++ x.n ++ [32] ++ verT x.w ++ [10] := by
  unfold lineT wordsT
  split
  · rw [join3]; simp
  · split
    · rw [join4]; simp
    · rw [join3]; simp
theorem c_l15Line (x : Chg) : PCtr PP n_spec_l15Line [x.enc] (str (lineC x)) := by
  obtain ⟨Ω, hΩ⟩ : ∃ Ω, Ω = std := ⟨_, rfl⟩
  have htab := tab
  have hve := verEq
  have hmo : PP.follows .mixedOrders = true := by kernel_rfl
  obtain ⟨r, hr⟩ : ∃ r, r = lineC x := ⟨_, rfl⟩
  rw [← hr]
  unfold lineC at hr
  rw [lineT_eq] at hr
  unfold told at hr
  have h1 := c_specNameFault x.n
  have h2 := c_specVersionFault x.o
  have h3 := c_specVersionFault x.w
  have g2 := c_specFormatVersion x.o
  have g3 := c_specFormatVersion x.w
  have l1 := nameF_len (n := x.n)
  have l2 := verT_len (v := x.o)
  have l3 := verT_len (v := x.w)
  generalize nameF x.n = N at *
  generalize verF x.o = O at *
  generalize verF x.w = W at *
  generalize verT x.o = A2 at *
  generalize verT x.w = A3 at *
  refine PCtr.walk tab hΩ fn_spec_l15Line rfl ?_
  obtain ⟨k, n, o, w⟩ := x
  dsimp only at *
  have f1 : N = 0 → O = 0 → W = 0 → k = 1 → decide (o = Ver.zero) = true → Ω.cat (Ω.cat (Ω.cat (Ω.cat [43, 32] n) [32]) A3) [10] = r := by
    intro a b c d e
    subst hΩ
    rw [hr]
    simp only [decide_eq_true a, decide_eq_true b, decide_eq_true c, Bool.true_and, if_pos d, e, if_true]
    rw [if_neg (by omega), if_neg (by omega)]; rfl
  have f2 : N = 0 → O = 0 → W = 0 → k = 2 → decide (w = Ver.zero) = true → Ω.cat (Ω.cat (Ω.cat (Ω.cat [45, 32] n) [32]) A2) [10] = r := by
    intro a b c d e
    subst hΩ
    rw [hr]
    simp only [decide_eq_true a, decide_eq_true b, decide_eq_true c, Bool.true_and, if_neg (show ¬ k = 1 by omega), if_pos d, e, if_true]; rfl
  have f3 : N = 0 → O = 0 → W = 0 → k = 3 → Ω.cat (Ω.cat (Ω.cat (Ω.cat (Ω.cat (Ω.cat [42, 32] n) [32]) A2) [32]) A3) [10] = r := by
    intro a b c d
    subst hΩ
    rw [hr]
    simp only [decide_eq_true a, decide_eq_true b, decide_eq_true c, Bool.true_and, if_neg (show ¬ k = 1 by omega), if_neg (show ¬ k = 2 by omega), decide_eq_true d, if_true]
    rw [if_pos d]; rfl
  have L : ∀ p : List UInt8, p.length = 2 → n.length ≤ 12 → ∀ V : List UInt8, V.length ≤ 11 → ((p.length + n.length : Nat) : Int) ≤ 9223372036854775807 ∧ (((Ω.cat p n).length + [(32 : UInt8)].length : Nat) : Int) ≤ 9223372036854775807 ∧
      (((Ω.cat (Ω.cat p n) [32]).length + V.length : Nat) : Int) ≤ 9223372036854775807 ∧ (((Ω.cat (Ω.cat (Ω.cat p n) [32]) V).length + [(10 : UInt8)].length : Nat) : Int) ≤ 9223372036854775807 ∧
      (((Ω.cat (Ω.cat (Ω.cat p n) [32]) V).length + [(32 : UInt8)].length : Nat) : Int) ≤ 9223372036854775807 ∧
      (∀ U : List UInt8, U.length ≤ 11 → (((Ω.cat (Ω.cat (Ω.cat (Ω.cat p n) [32]) V) [32]).length + U.length : Nat) : Int) ≤ 9223372036854775807 ∧ (((Ω.cat (Ω.cat (Ω.cat (Ω.cat (Ω.cat p n) [32]) V) [32]) U).length + [(10 : UInt8)].length : Nat) : Int) ≤ 9223372036854775807) := by
    intro p hp hn V hV
    refine ⟨obC ?_, obC ?_, obC ?_, obC ?_, obC ?_, fun U hU => ⟨obC ?_, obC ?_⟩⟩ <;> simp only [catL hΩ, List.length_singleton, hp] <;> omega
  generalize PP = P at *
  cbv
  repeat' (first
    | (refine br (fun hh => ?_) (fun hh => ?_) <;> (repeat' (first | replace hh := iteA hΩ hh | replace hh := iteB hΩ hh)) <;> (first | replace hh := neZt hΩ hh | replace hh := neZf hΩ hh | replace hh := eqZt hΩ hh | replace hh := eqZf hΩ hh | replace hh := ltZt hΩ hh | replace hh := ltZf hΩ hh | replace hh := geZt hΩ hh | replace hh := geZf hΩ hh | replace hh := gtZt hΩ hh | replace hh := gtZf hΩ hh | replace hh := leZt hΩ hh | replace hh := leZf hΩ hh | replace hh := notA hΩ hh | replace hh := notB hΩ hh | skip) <;> (first | (exfalso; (first | omega | (cases hh; done) | (simp_all; done))) | cbv))
    | (refine call_pure hΩ 3 h1 rfl (fits _) rfl rfl ?_; cbv)
    | (refine call_pure hΩ 3 h2 rfl (fits _) rfl rfl ?_; cbv)
    | (refine call_pure hΩ 3 h3 rfl (fits _) rfl rfl ?_; cbv)
    | (refine eqX_eql hve o Ver.zero ?_; cbv)
    | (refine eqX_eql hve w Ver.zero ?_; cbv)
    | (refine ⟨VC_drawn htab hΩ hmo (by kernel_rfl) ?_⟩; cbv
       have L' := fun p hp => L p hp (l1 ‹N = 0›)
       first
       | (have hk := ‹k = 1›
          have L1 := L' [43, 32] rfl A3 (l3 ‹W = 0›)
          refine ⟨⟨L1.1⟩, ⟨L1.2.1⟩, ?_⟩
          refine QCall_pure (k := 3) (g3 ‹W = 0›) rfl (fits _) rfl ?_
          cbv
          refine ⟨⟨L1.2.2.1⟩, ⟨L1.2.2.2.1⟩, ?_⟩
          cbv
          exact .of (congrArg str (f1 ‹N = 0› ‹O = 0› ‹W = 0› ‹k = 1› ‹_›)))
       | (have hk := ‹k = 2›
          have L1 := L' [45, 32] rfl A2 (l2 ‹O = 0›)
          refine ⟨⟨L1.1⟩, ⟨L1.2.1⟩, ?_⟩
          refine QCall_pure (k := 3) (g2 ‹O = 0›) rfl (fits _) rfl ?_
          cbv
          refine ⟨⟨L1.2.2.1⟩, ⟨L1.2.2.2.1⟩, ?_⟩
          cbv
          exact .of (congrArg str (f2 ‹N = 0› ‹O = 0› ‹W = 0› ‹k = 2› ‹_›)))
       | (have hk := ‹k = 3›
          have L1 := L' [42, 32] rfl A2 (l2 ‹O = 0›)
          have L2 := L1.2.2.2.2.2 A3 (l3 ‹W = 0›)
          refine ⟨⟨L1.1⟩, ⟨L1.2.1⟩, ?_⟩
          refine QCall_pure (k := 3) (g2 ‹O = 0›) rfl (fits _) rfl ?_
          cbv
          refine ⟨⟨L1.2.2.1⟩, ⟨L1.2.2.2.2.1⟩, ?_⟩
          refine QCall_pure (k := 3) (g3 ‹W = 0›) rfl (fits _) rfl ?_
          cbv
          refine ⟨⟨L2.1⟩, ⟨L2.2⟩, ?_⟩
          cbv
          exact .of (congrArg str (f3 ‹N = 0› ‹O = 0› ‹W = 0› ‹k = 3›)))))
  all_goals clear htab hve hmo h1 h2 h3 g2 g3 L f1 f2 f3
  all_goals refine .of (congrArg str ?_)
  all_goals rw [hr]
  all_goals first
    | (simp [*]; done)
    | (rw [if_neg]; simp only [decide_eq_true ‹N = 0›, decide_eq_true ‹O = 0›, decide_eq_true ‹W = 0›, Bool.true_and, if_pos ‹k = 1›]; exact Bool.eq_false_iff.1 ‹_›)
    | (rw [if_neg]; simp only [decide_eq_true ‹N = 0›, decide_eq_true ‹O = 0›, decide_eq_true ‹W = 0›, Bool.true_and, if_neg ‹¬ k = 1›, if_pos ‹k = 2›]; exact Bool.eq_false_iff.1 ‹_›)
    | (rw [if_neg]; simp only [decide_eq_true ‹N = 0›, decide_eq_true ‹O = 0›, decide_eq_true ‹W = 0›, Bool.true_and, if_neg ‹¬ k = 1›, if_neg ‹¬ k = 2›, decide_eq_true_eq]; assumption)
end Go.Proofs.YtfmcncflooechaaDoor

/- Walks: lists of changes as text. Plain theorems. -/
set_option linter.unusedVariables false
set_option linter.unusedSimpArgs false
namespace Go.Proofs.YtfmcncflooechaaDoor
open Go Go.Fw
set_option maxRecDepth 100000
theorem seqT {Ω : Opq} (hΩ : Ω = std) {x y : List UInt8} (h : Ω.cmpS .eql x y = true) : x = y := by subst hΩ; exact of_decide_eq_true ((by simpa [cmpSS] using (show cmpSS .eql x y = true from h)))
theorem seqF {Ω : Opq} (hΩ : Ω = std) {x y : List UInt8} (h : Ω.cmpS .eql x y = false) : x ≠ y := by subst hΩ; exact fun e => by subst e; have h : cmpSS .eql x x = false := h; simp [cmpSS] at h
def fmtL : List Chg → List UInt8 → List UInt8
  | [], acc => acc
  | x :: xs, acc => if told x then fmtL xs (acc ++ lineT x) else []
/-- The changes' text. -/
def fmtC (cs : List Chg) : List UInt8 := fmtL cs []
theorem fmtL_at {cs : List Chg} {i : Nat} {c : Chg} {acc : List UInt8} (h : cs[i]? = some c) : fmtL (cs.drop i) acc = if told c then fmtL (cs.drop (i + 1)) (acc ++ lineT c) else [] := by
  obtain ⟨hi, rfl⟩ := List.getElem?_eq_some_iff.1 h
  rw [List.drop_eq_getElem_cons hi]; rfl
theorem c_specFormatChanges (cs : List Chg) (hb : cs.length ≤ 1048576) : PCtr PP n_spec_FormatChanges [.sl false 8 (cs.map Chg.enc)] (str (fmtC cs)) := by
  obtain ⟨Ω, hΩ⟩ : ∃ Ω, Ω = std := ⟨_, rfl⟩
  obtain ⟨xs, hxs⟩ : ∃ xs, xs = cs.map Chg.enc := ⟨_, rfl⟩
  have hxl : xs.length = cs.length := by rw [hxs, List.length_map]
  obtain ⟨r, hr⟩ : ∃ r, r = fmtC cs := ⟨_, rfl⟩
  rw [← hxs, ← hr]
  unfold fmtC at hr
  obtain ⟨n, hn⟩ : ∃ n, n = cs.length := ⟨_, rfl⟩
  have hc := c_l15Line
  have htab := tab
  refine PCtr.walk tab hΩ fn_spec_FormatChanges rfl ?_
  generalize PP = P at *
  cbv
  refine loopX htab hΩ (fun i : Nat × List UInt8 => ⟨[(0, .sl false 8 xs), (3, str i.2), (4, i64 (Ω.int i.1))], 23, []⟩) (fun i => i.1 ≤ n ∧ i.2.length ≤ 39 * i.1 ∧ r = fmtL (cs.drop i.1) i.2) (fun i => n - i.1) (0, []) ⟨Nat.zero_le _, Nat.le_refl _, hr⟩
    (Sbs.mk rfl rfl ⟨rfl, rfl, zeroI hΩ, trivial⟩) (fun i hi => ?_)
  obtain ⟨i, acc⟩ := i
  obtain ⟨hi, hal, hra⟩ := hi
  dsimp only at hi hal hra ⊢
  cbv
  refine br (fun h => ?_) (fun h => ?_) <;> cbv
  · replace h := ltI hΩ h
    obtain ⟨c, hcc⟩ := at_of (cs := cs) (by omega : i < _)
    refine ⟨⟨nnI hΩ⟩, _, rdI hΩ hxs hcc, ?_⟩
    have hcl := hc c
    rw [fmtL_at hcc] at hra
    unfold lineC at hcl
    have hll := lineT_len (x := c)
    generalize lineT c = L at *
    obtain ⟨Lr, hLr⟩ : ∃ Lr, Lr = if told c then L else [] := ⟨_, rfl⟩
    rw [← hLr] at hcl
    cbv
    refine call_pure hΩ 3 hcl rfl (fits _) rfl rfl ?_
    cbv
    refine br (fun h => ?_) (fun h => ?_) <;> cbv
    · replace h := seqT hΩ h
      refine .of (congrArg str ?_)
      rw [hra, if_neg]
      intro ht
      have := hll ht
      rw [if_pos ht] at hLr
      rw [← hLr, h] at this
      exact absurd this.2 (Nat.lt_irrefl 0)
    · replace h := seqF hΩ h
      have ht : told c = true := by
        rcases Bool.eq_false_or_eq_true (told c) with ht | ht
        · exact ht
        · rw [ht] at hLr; exact absurd hLr h
      rw [if_pos ht] at hLr hra
      subst hLr
      have hl2 := hll ht
      have hcl2 : (Ω.cat acc Lr).length = acc.length + Lr.length := catL hΩ
      refine ⟨⟨obC (by omega)⟩, ?_⟩
      cbv
      exact ⟨(i + 1, Ω.cat acc Lr), ⟨by show i + 1 ≤ n; omega, by show (Ω.cat acc Lr).length ≤ 39 * (i + 1); omega, by subst hΩ; exact hra⟩, by show n - (i + 1) < n - i; omega, Sbs.mk rfl rfl ⟨rfl, rfl, incI hΩ (by omega), trivial⟩⟩
  · replace h := geI hΩ h
    have : i = cs.length := by omega
    subst this
    rw [List.drop_length] at hra
    exact .of (congrArg str hra.symm)
theorem c_implFormatChanges (cs : List Chg) (hb : cs.length ≤ 1048576) : PCtr PP n_impl_FormatChanges [.sl false 8 (cs.map Chg.enc)] (str (fmtC cs)) := by
  obtain ⟨Ω, hΩ⟩ : ∃ Ω, Ω = std := ⟨_, rfl⟩
  obtain ⟨xs, hxs⟩ : ∃ xs, xs = cs.map Chg.enc := ⟨_, rfl⟩
  have hxl : xs.length = cs.length := by rw [hxs, List.length_map]
  obtain ⟨r, hr⟩ : ∃ r, r = fmtC cs := ⟨_, rfl⟩
  rw [← hxs, ← hr]
  unfold fmtC at hr
  obtain ⟨n, hn⟩ : ∃ n, n = cs.length := ⟨_, rfl⟩
  have hc := c_isTold
  have htx := c_text
  have hjn := c_joined
  have htab := tab
  have hmo : PP.follows .mixedOrders = true := by kernel_rfl
  refine PCtr.walk tab hΩ fn_impl_FormatChanges rfl ?_
  generalize PP = P at *
  cbv
  refine loopX htab hΩ (fun i : Nat × List UInt8 => ⟨[(0, .sl false 8 xs), (3, str i.2), (7, .sl false 8 xs), (8, i64 (Ω.int (Ω.len xs))), (9, i64 (Ω.int i.1))], 50, []⟩) (fun i => i.1 ≤ n ∧ i.2.length ≤ 39 * i.1 ∧ r = fmtL (cs.drop i.1) i.2) (fun i => n - i.1) (0, []) ⟨Nat.zero_le _, Nat.le_refl _, hr⟩
    (Sbs.mk rfl rfl ⟨rfl, rfl, rfl, rfl, zeroI hΩ, trivial⟩) (fun i hi => ?_)
  obtain ⟨i, acc⟩ := i
  obtain ⟨hi, hal, hra⟩ := hi
  dsimp only at hi hal hra ⊢
  cbv
  refine br (fun h => ?_) (fun h => ?_) <;> cbv
  · replace h := ltI hΩ h
    obtain ⟨c, hcc⟩ := at_of (cs := cs) (by omega : i < _)
    refine ⟨⟨nnI hΩ⟩, _, rdI hΩ hxs hcc, ?_⟩
    have hcl := hc c
    rw [fmtL_at hcc] at hra
    have hll := lineT_len (x := c)
    have htd := told_of (x := c)
    obtain ⟨k, nm, o, w⟩ := c
    dsimp only at *
    generalize told ⟨k, nm, o, w⟩ = t at *
    cbv
    refine call_pure hΩ 3 hcl rfl (fits _) rfl rfl ?_
    cbv
    refine br (fun h => ?_) (fun h => ?_) <;> cbv
    · refine .of (congrArg str ?_)
      rw [hra, if_neg (by rw [notT' hΩ h]; decide)]
    · have ht := notF' hΩ h
      obtain ⟨hN, hO, hW⟩ := htd ht
      rw [if_pos ht] at hra
      replace hll := hll ht
      have g2 := htx o hO
      have g3 := htx w hW
      have l1 := nameF_len hN
      have l2 := verT_len hO
      have l3 := verT_len hW
      have j1 := hjn [[43], nm, verT w] (by simp) (by rw [join3]; simp; omega)
      have j2 := hjn [[45], nm, verT o] (by simp) (by rw [join3]; simp; omega)
      have j3 := hjn [[42], nm, verT o, verT w] (by simp) (by rw [join4]; simp; omega)
      have e1 : ¬ k = 2 → ¬ k = 3 → lineT ⟨k, nm, o, w⟩ = Lib.join [[43], nm, verT w] [32] ++ [10] := fun h1 h2 => by unfold lineT wordsT; dsimp only; rw [if_neg h1, if_neg h2]
      have e2 : k = 2 → lineT ⟨k, nm, o, w⟩ = Lib.join [[45], nm, verT o] [32] ++ [10] := fun h1 => by unfold lineT wordsT; dsimp only; rw [if_pos h1]
      have e3 : k = 3 → lineT ⟨k, nm, o, w⟩ = Lib.join [[42], nm, verT o, verT w] [32] ++ [10] := fun h1 => by unfold lineT wordsT; dsimp only; rw [if_neg (by omega), if_pos h1]
      generalize lineT ⟨k, nm, o, w⟩ = L at *
      generalize Lib.join [[43], nm, verT w] [32] = J1 at *
      generalize Lib.join [[45], nm, verT o] [32] = J2 at *
      generalize Lib.join [[42], nm, verT o, verT w] [32] = J3 at *
      generalize verT o = A2 at *
      generalize verT w = A3 at *
      have fin : ∀ J : List UInt8, L = J ++ [10] → ((J.length + [(10 : UInt8)].length : Nat) : Int) ≤ 9223372036854775807 ∧ ((acc.length + (Ω.cat J [10]).length : Nat) : Int) ≤ 9223372036854775807 ∧ (i + 1 ≤ n ∧ (Ω.cat acc (Ω.cat J [10])).length ≤ 39 * (i + 1) ∧ r = fmtL (cs.drop (i + 1)) (Ω.cat acc (Ω.cat J [10]))) := fun J hJ => by
        have hl : L.length = J.length + 1 := by rw [hJ, List.length_append, List.length_singleton]
        refine ⟨obC (by rw [List.length_singleton]; omega), obC (by rw [catL hΩ, List.length_singleton]; omega), by omega, by rw [catL hΩ, catL hΩ, List.length_singleton]; omega, ?_⟩
        subst hΩ
        rw [hJ] at hra; exact hra
      have hin : i + 1 < 9223372036854775807 := by omega
      clear hra hal hcc hc htx hjn hcl htd hll
      refine ⟨VC.sub (VC_plan htab hΩ hmo (.qs [0, 1, 2, 3] (.s 4 (.s 5 (.s 6 .fin)))) (by kernel_rfl) ?_) ((Sbs.unlk (r := 0) rfl rfl).trans (Sbs.thaw0 (r := 0) rfl rfl rfl))⟩
      cbv
      refine call_pure hΩ 3 g3 rfl (fits _) rfl rfl ?_
      cbv
      repeat' (first
        | (refine br (fun hh => ?_) (fun hh => ?_) <;> (repeat' (first | replace hh := iteA hΩ hh | replace hh := iteB hΩ hh)) <;> (first | replace hh := neZt hΩ hh | replace hh := neZf hΩ hh | replace hh := eqZt hΩ hh | replace hh := eqZf hΩ hh | replace hh := ltZt hΩ hh | replace hh := ltZf hΩ hh | replace hh := geZt hΩ hh | replace hh := geZf hΩ hh | replace hh := gtZt hΩ hh | replace hh := gtZf hΩ hh | replace hh := leZt hΩ hh | replace hh := leZf hΩ hh | replace hh := notA hΩ hh | replace hh := notB hΩ hh | skip) <;> (first | (exfalso; (first | omega | (cases hh; done) | (simp_all; done))) | cbv))
        | (have hk := ‹k = 2›
           refine ⟨VC.sub (VC_plan htab hΩ hmo (.qs [0, 1, 2, 3] (.s 4 (.s 5 (.s 6 .fin)))) (by kernel_rfl) ?_) (Sbs.cut 0 rfl)⟩
           cbv
           refine call_pure hΩ 3 g2 rfl (fits _) rfl rfl ?_
           cbv)
        | (have hk := ‹k = 3›
           refine ⟨VC.sub (VC_plan htab hΩ hmo (.qs [0, 1, 2, 3, 5, 6] (.s 4 (.s 7 (.s 8 (.s 9 .fin))))) (by kernel_rfl) ?_) (Sbs.cut 0 rfl)⟩
           cbv
           refine call_pure hΩ 3 g2 rfl (fits _) rfl rfl ?_
           cbv
           refine call_pure hΩ 3 g3 rfl (fits _) rfl rfl ?_
           cbv))
      all_goals first
        | (have hk := ‹k = 2›
           have F := fin J2 (e2 hk)
           refine call_pure hΩ 3 j2 (mapO1 (ro_vw rfl rfl rfl)) (fits _) rfl rfl ?_
           cbv
           refine ⟨⟨F.1⟩, ⟨F.2.1⟩, ?_⟩
           cbv
           exact ⟨(i + 1, Ω.cat acc (Ω.cat J2 [10])), F.2.2, by show n - (i + 1) < n - i; have := F.2.2.1; omega, (Sbs.cut 0 rfl).trans (Sbs.mk rfl rfl ⟨rfl, rfl, rfl, rfl, incI hΩ (by omega), trivial⟩)⟩)
        | (have hk := ‹k = 3›
           have F := fin J3 (e3 hk)
           refine call_pure hΩ 3 j3 (mapO1 (ro_vw rfl rfl rfl)) (fits _) rfl rfl ?_
           cbv
           refine ⟨⟨F.1⟩, ⟨F.2.1⟩, ?_⟩
           cbv
           exact ⟨(i + 1, Ω.cat acc (Ω.cat J3 [10])), F.2.2, by show n - (i + 1) < n - i; have := F.2.2.1; omega, (Sbs.cut 0 rfl).trans (Sbs.mk rfl rfl ⟨rfl, rfl, rfl, rfl, incI hΩ (by omega), trivial⟩)⟩)
        | (have hk := ‹¬ k = 2›
           have hk3 := ‹¬ k = 3›
           have F := fin J1 (e1 hk hk3)
           refine call_pure hΩ 3 j1 (mapO1 (ro_vw rfl rfl rfl)) (fits _) rfl rfl ?_
           cbv
           refine ⟨⟨F.1⟩, ⟨F.2.1⟩, ?_⟩
           cbv
           exact ⟨(i + 1, Ω.cat acc (Ω.cat J1 [10])), F.2.2, by show n - (i + 1) < n - i; have := F.2.2.1; omega, (Sbs.cut 0 rfl).trans (Sbs.mk rfl rfl ⟨rfl, rfl, rfl, rfl, incI hΩ (by omega), trivial⟩)⟩)
  · replace h := geI hΩ h
    have : i = cs.length := by omega
    subst this
    rw [List.drop_length] at hra
    exact .of (congrArg str hra.symm)
end Go.Proofs.YtfmcncflooechaaDoor

/- The law of FormatChanges, walked. Plain theorems. -/
set_option linter.unusedVariables false
set_option linter.unusedSimpArgs false
namespace Go.Proofs.YtfmcncflooechaaDoor
open Go Go.Fw
set_option maxRecDepth 100000
theorem frz_ChgS (cs : List Chg) : (cs.map Chg.enc).map frz = cs.map Chg.enc := by
  rw [List.map_map]; exact List.map_congr_left fun c _ => rfl
theorem roF_ChgS (cs : List Chg) : roFree (.sl true 8 (cs.map Chg.enc)) = true := roFAll fun x hx => by obtain ⟨c, _, rfl⟩ := List.mem_map.1 hx; rfl
theorem szS_len' {α : Type} {f : α → Int → Int} {cs : List α} {l : Int} (h : 0 ≤ szS f cs l) : (cs.length : Int) ≤ l := by
  unfold szS at h
  split at h <;> omega
theorem sneT {Ω : Opq} (hΩ : Ω = std) {x y : List UInt8} (h : Ω.cmpS .neq x y = true) : x ≠ y := by subst hΩ; exact fun e => by subst e; have h : cmpSS .neq x x = true := h; simp [cmpSS] at h
theorem c_lawFormatChanges (t : List Chg) (htm : t.length ≤ maxLen) : PCtr PP n_laws_FnExactFormatChanges [.sl false 8 (t.map Chg.enc)] (boo true) := by
  obtain ⟨Ω, hΩ⟩ : ∃ Ω, Ω = std := ⟨_, rfl⟩
  obtain ⟨ts, hts⟩ : ∃ ts, ts = t.map Chg.enc := ⟨_, rfl⟩
  obtain ⟨r, hr⟩ : ∃ r, r = fmtC t := ⟨_, rfl⟩
  have htl : ts.length = t.length := by rw [hts, List.length_map]
  have htf : ts.map frz = ts := by rw [hts]; exact frz_ChgS t
  have rt : roFree (.sl true 8 ts) = true := by rw [hts]; exact roF_ChgS t
  have lt : Ω.len ts = ts.length := by subst hΩ; rfl
  have h1 := c_szChangeS t 1048576 (by omega) (by omega) htm
  obtain ⟨l, hl, hl2⟩ : ∃ l, szS (fun (c : Chg) => szStr c.n) t 1048576 = l ∧ (0 ≤ l → t.length ≤ 1048576) := ⟨_, rfl, fun h => by have := szS_len' h; omega⟩
  have H : 0 ≤ l → PCtr PP n_laws_toChangeS [.sl false 8 ts] (.sl true 8 ts) ∧ PCtr PP n_spec_FormatChanges [.sl false 8 ts] (str r) ∧ PCtr PP n_impl_FormatChanges [.sl false 8 ts] (str r) ∧ PCtr PP n_laws_eqChangeS [.sl false 8 ts, .sl false 8 ts] (boo true) := fun h => by
    have hb := hl2 h
    rw [hts, hr]
    exact ⟨c_toChangeS t hb, c_specFormatChanges t hb, c_implFormatChanges t hb, c_eqChangeS t (by omega)⟩
  rw [hl, ← hts] at h1
  rw [← hts]
  clear hl2 hts hr
  refine PCtr.walk tab hΩ fn_laws_FnExactFormatChanges rfl ?_
  have htab := tab
  generalize PP = P at *
  cbv
  refine call_pure hΩ 3 h1 rfl (fits _) rfl rfl ?_
  cbv
  refine br (fun h => ?_) (fun h => ?_)
  · cbv
    exact .same
  obtain ⟨a1, a2, a3, a4⟩ := H (ltI_f hΩ h)
  clear H
  cbv
  refine call_pure hΩ 3 a1 rfl (fits _) rt rfl ?_
  cbv
  refine call_pure hΩ 3 a2 (mapO1 (ro_vw rfl lt htf)) (fits _) rfl rfl ?_
  cbv
  refine call_pure hΩ 3 a1 rfl (fits _) rt rfl ?_
  cbv
  refine call_pure hΩ 3 a3 (mapO1 (ro_vw rfl lt htf)) (fits _) rfl rfl ?_
  cbv
  refine br (fun h => (sneT hΩ h rfl).elim) (fun h => ?_)
  cbv
  refine call_pure hΩ 3 a1 rfl (fits _) rt rfl ?_
  cbv
  refine call_pure hΩ 3 a4 (mapO2 (ro_vw rfl lt htf) (ro_vw rfl lt htf)) (fits _) rfl rfl ?_
  cbv
  refine br (fun h => (notT hΩ h).elim) (fun h => ?_)
  cbv
  exact .same
end Go.Proofs.YtfmcncflooechaaDoor

/- What a reading of an argument says of it: it is read-only plain data. Plain theorems, no condition. -/
set_option linter.unusedVariables false
set_option linter.unusedSimpArgs false
namespace Go.Fw
/-- Types of plain data. -/
inductive Ty where
  | int (k : IntKind)
  | bool
  | str
  | sl (e : Ty)
  | st (fs : List Ty)
mutual
def Ty.n : Ty → Nat
  | .st fs => Ty.nL fs
  | .int _ => 1
  | .bool => 1
  | .str => 1
  | .sl _ => 1
def Ty.nL : List Ty → Nat
  | [] => 0
  | x :: xs => x.n + Ty.nL xs
end
def Ty.elem (e : Ty) (cs : List A) : A :=
  match e with
  | .st _ => .agg cs
  | _ => cs.headD .un
mutual
def TyOK (P : Program) : Ty → TypeId → Prop
  | .int k, t => P.underlying t = some (.int k)
  | .bool, t => P.underlying t = some .bool
  | .str, t => P.underlying t = some .string
  | .sl e, t => ∃ te, P.underlying t = some (.slice te) ∧ P.cellsOf te = e.n ∧ Nat.ble 1 e.n = true ∧ TyOK P e te
  | .st fs, t => ∃ f, P.underlying t = some (.struct f) ∧ P.cellsOf t = Ty.nL fs ∧ TysOK P 0 fs f.toList
def TysOK (P : Program) : Nat → List Ty → List Field → Prop
  | _, [], [] => True
  | o, x :: xs, f :: fs => f.offset = o ∧ P.cellsOf f.type = x.n ∧ TyOK P x f.type ∧ TysOK P (o + x.n) xs fs
  | _, _, _ => False
end
mutual
inductive Shp : Ty → List A → Prop
  | int {k : IntKind} {n : Int} (h : (Lit.int k n).wf = true) : Shp (.int k) [.sc (.int k n)]
  | bool {b : Bool} : Shp .bool [.sc (.bool b)]
  | str {s : List UInt8} (h : s.length ≤ maxLen) : Shp .str [.sc (.string (mkS s))]
  | sl {e : Ty} {ys : List A} (h : ∀ y ∈ ys, Shp e y.cells) (h2 : ∀ y ∈ ys, y = e.elem y.cells) (hl : ys.length ≤ maxLen) : Shp (.sl e) [.sl false e.n ys]
  | st {fs : List Ty} {xs : List A} (h : ShpL fs xs) : Shp (.st fs) xs
inductive ShpL : List Ty → List A → Prop
  | nil : ShpL [] []
  | cons {t : Ty} {ts : List Ty} {xs ys : List A} (h : Shp t xs) (hl : ShpL ts ys) : ShpL (t :: ts) (xs ++ ys)
end
mutual
theorem Shp.length : ∀ {t : Ty} {xs : List A}, Shp t xs → xs.length = t.n
  | _, _, .int _ => rfl
  | _, _, .bool => rfl
  | _, _, .str _ => rfl
  | _, _, .sl _ _ _ => rfl
  | _, _, .st h => by rw [Ty.n]; exact h.length
theorem ShpL.length : ∀ {ts : List Ty} {xs : List A}, ShpL ts xs → xs.length = Ty.nL ts
  | _, _, .nil => rfl
  | _, _, .cons h hl => by rw [List.length_append, h.length, hl.length, Ty.nL]
end
theorem elem_cells {e : Ty} {cs : List A} (h : Shp e cs) : (e.elem cs).cells = cs := by
  cases h <;> rfl
theorem cells_list {w : World} {base : Nat} {a : Addr} {n : Nat} {cs : List Value} (h : w.cells? base a n = some cs) (hn : 0 < n) :
    ∃ cur e fr, w.heap[a.block]? = some (.cells cur e fr) ∧ a.spot = none ∧ cs = (cur.toList.drop a.off).take n ∧ cs.length = n := by
  unfold World.cells? at h
  split at h <;> try simp at h
  have hget : ∀ (l : List Nat) (r : List Value), l.mapM (fun i => w.cell? (a.add i)) = some r → r.length = l.length ∧ ∀ (j i : Nat), l[j]? = some i → ∃ v, r[j]? = some v ∧ w.cell? (a.add i) = some v := by
    intro l
    induction l with
    | nil => intro r h; simp at h; subst h; simp
    | cons x l ih =>
      intro r h
      simp only [List.mapM_cons, Option.bind_eq_bind, Option.pure_def, Option.bind_eq_some_iff, Option.some.injEq] at h
      obtain ⟨v, hv, r', hr', rfl⟩ := h
      obtain ⟨h1, h2⟩ := ih r' hr'
      refine ⟨by simp [h1], fun j i hj => ?_⟩
      cases j with
      | zero => simp at hj; subst hj; exact ⟨v, rfl, hv⟩
      | succ j => simpa using h2 j i (by simpa using hj)
  obtain ⟨hl, hat⟩ := hget _ _ h
  rw [List.length_range] at hl
  obtain ⟨v0, _, hv0⟩ := hat 0 0 (by rw [List.getElem?_range hn])
  have hblk : ∀ i, (a.add i).block = a.block := fun i => by unfold Addr.add; split <;> rfl
  unfold World.cell? at hv0
  rw [hblk] at hv0
  split at hv0 <;> try simp at hv0
  rename_i cur e fr hh
  have hsp : a.spot = none := by
    cases hs : a.spot with
    | none => rfl
    | some s => simp [Addr.add, hs] at hv0
  refine ⟨cur, e, fr, hh, hsp, ?_, hl⟩
  have ha : a = ⟨a.block, a.off, none⟩ := by cases a; simp at hsp; subst hsp; rfl
  have hcell : ∀ i, w.cell? (a.add i) = cur[a.off + i]? := fun i => by rw [ha, add_none, cell_at hh]
  have hlen : a.off + n ≤ cur.size := by
    obtain ⟨v, _, hv⟩ := hat (n - 1) (n - 1) (by rw [List.getElem?_range (by omega)])
    rw [hcell] at hv
    have := (Array.getElem?_eq_some_iff.1 hv).1
    omega
  apply List.ext_getElem?
  intro j
  by_cases hj : j < n
  · obtain ⟨v, hv1, hv2⟩ := hat j j (by rw [List.getElem?_range hj])
    rw [hv1, List.getElem?_take_of_lt hj, List.getElem?_drop]
    rw [hcell] at hv2
    simpa using hv2.symm
  · rw [List.getElem?_eq_none (by omega), List.getElem?_eq_none (by simp; omega)]
theorem add_block (a : Addr) (i : Nat) : (a.add i).block = a.block := by unfold Addr.add; split <;> rfl
theorem rows_rel {w : World} {G : Nat → Prop} {n : Nat} {X : Nat → List A} {l : List Value} : ∀ len : Nat, (∀ i, i < len → RelL w G (X i) ((l.drop (i * n)).take n) []) → RelL w G ((List.range len).flatMap X) (l.take (len * n)) []
  | 0, _ => by simpa using RelL.nil
  | len + 1, h => by
    have h1 := rows_rel (X := X) len fun i hi => h i (by omega)
    have h2 := h1.append (h len (by omega))
    rw [List.range_succ, List.flatMap_append, Nat.succ_mul, List.take_add]
    simpa using h2
mutual
theorem trod_rel {H : Type} {enc : TypeId × Value → H} {P : Program} {w : World} {base : Nat} {sp : Nat → Bool} {held : Bool} (hsp : ∀ b, sp b = true) :
    ∀ (ty : Ty) (t : TypeId) (fuel : Nat) (cs : List Value) (x : DataW H × List MemPlace), TyOK P ty t → DataW.trod enc P w base sp held fuel t cs = some x → ∃ xs, RelL w (Old w) xs cs [] ∧ Shp ty xs
  | .int k, t, 0, cs, x, hu, h => by simp [DataW.trod] at h
  | .int k, t, fuel + 1, cs, x, hu, h => by
    have hu : P.underlying t = some (.int k) := hu
    unfold DataW.trod at h
    rw [hu] at h
    split at h <;> try simp_all
    obtain ⟨⟨rfl, hw⟩, _⟩ := h
    exact ⟨_, .cons (F := []) (Fs := []) (.sc rfl) .nil, .int hw⟩
  | .bool, t, 0, cs, x, hu, h => by simp [DataW.trod] at h
  | .bool, t, fuel + 1, cs, x, hu, h => by
    have hu : P.underlying t = some .bool := hu
    unfold DataW.trod at h
    rw [hu] at h
    split at h <;> try simp_all
    exact ⟨_, .cons (F := []) (Fs := []) (.sc rfl) .nil, .bool⟩
  | .str, t, 0, cs, x, hu, h => by simp [DataW.trod] at h
  | .str, t, fuel + 1, cs, x, hu, h => by
    have hu : P.underlying t = some .string := hu
    unfold DataW.trod at h
    rw [hu] at h
    split at h <;> try simp_all
    rename_i s
    refine ⟨[.sc (.string (mkS (bs s)))], .cons (F := []) (Fs := []) (.sc rfl) .nil, .str ?_⟩
    rw [bs_length]; exact h.1
  | .sl e, t, fuel, cs, x, hu, h => by
    obtain ⟨te, hu, hc, hpos, hte⟩ := hu
    have hpos := Nat.le_of_ble_eq_true hpos
    rcases Go.Deep.open_slice hu h with ⟨rfl, _⟩ | ⟨a, len, cap, m, n, D, Pl, rfl, _, hl, hm, hmm, _, hel⟩
    · exact ⟨[.sl false e.n []], .cons (F := []) (Fs := []) .nils .nil, .sl (by simp) (by simp) (by simp)⟩
    · rw [hsp, if_pos rfl] at hmm
      subst hmm
      rw [hc] at hel
      by_cases hm0 : m = 0
      · subst hm0
        have : len = 0 := by omega
        subst this
        exact ⟨[.sl false e.n []], .cons (F := []) (Fs := []) .roz .nil, .sl (by simp) (by simp) (by simp)⟩
      · obtain ⟨cs0, hc0, _⟩ := hel 0 (by omega)
        obtain ⟨cur, et, fr, hh, hspot, _, _⟩ := cells_list hc0 hpos
        rw [add_block] at hh
        have hspot' : a.spot = none := by
          cases hs : a.spot with
          | none => rfl
          | some s => simp [Addr.add, hs] at hspot
        have ha : a = ⟨a.block, a.off, none⟩ := by cases a; simp at hspot'; subst hspot'; rfl
        have hX : ∀ i, i < m → ∃ xs, RelL w (Old w) xs ((cur.toList.drop (a.off + i * e.n)).take e.n) [] ∧ Shp e xs := fun i hi => by
          obtain ⟨csi, hci, hti⟩ := hel i hi
          obtain ⟨cur', et', fr', hh', _, hcs, _⟩ := cells_list hci hpos
          rw [add_block, hh] at hh'
          simp only [Option.some.injEq, Obj.cells.injEq] at hh'
          obtain ⟨rfl, _, _⟩ := hh'
          obtain ⟨xs, h1, h2⟩ := trod_rel hsp e te n csi _ hte hti
          refine ⟨xs, ?_, h2⟩
          rw [hcs] at h1
          have : (a.add (i * e.n)).off = a.off + i * e.n := by rw [ha, add_none]
          rw [this] at h1
          exact h1
        let X : Nat → List A := fun i => if h : i < m then Classical.choose (hX i h) else []
        have hX1 : ∀ i, i < m → RelL w (Old w) (X i) ((cur.toList.drop (a.off + i * e.n)).take e.n) [] ∧ Shp e (X i) := fun i hi => by
          have : X i = Classical.choose (hX i hi) := by simp only [X]; rw [dif_pos hi]
          rw [this]; exact Classical.choose_spec (hX i hi)
        have hmem : ∀ y ∈ (List.range len).map fun i => e.elem (X i), Shp e y.cells ∧ y = e.elem y.cells := fun y hy => by
          obtain ⟨i, hi, rfl⟩ := List.mem_map.1 hy
          have hi := List.mem_range.1 hi
          have hs := (hX1 i (by omega)).2
          rw [elem_cells hs]
          exact ⟨hs, rfl⟩
        refine ⟨[.sl false e.n ((List.range len).map fun i => e.elem (X i))], .cons (F := []) (Fs := []) ?_ .nil, .sl (fun y hy => (hmem y hy).1) (fun y hy => (hmem y hy).2) (by simp; omega)⟩
        have hlt : a.block < w.heap.size := (Array.getElem?_eq_some_iff.1 hh).1
        rw [ha]
        refine .ro hh hlt (fun y hy => ?_) (by simp) rfl ?_ (by omega) (by omega)
        · have := (hmem y hy).1.length
          exact this
        · have hf : flat ((List.range len).map fun i => e.elem (X i)) = (List.range len).flatMap X := by
            unfold flat
            rw [List.flatMap_map]
            have : ∀ l : List Nat, (∀ i ∈ l, i < m) → l.flatMap (fun i => (e.elem (X i)).cells) = l.flatMap X := by
              intro l
              induction l with
              | nil => intro _; rfl
              | cons i l ih =>
                intro hl
                rw [List.flatMap_cons, List.flatMap_cons, ih fun j hj => hl j (by simp [hj]), elem_cells (hX1 i (hl i (by simp))).2]
            exact this _ fun i hi => by have := List.mem_range.1 hi; omega
          rw [hf]
          refine rows_rel len fun i hi => ?_
          have := (hX1 i (by omega)).1
          rw [← List.drop_drop] at this
          exact this
  | .st fs, t, 0, cs, x, hu, h => by simp [DataW.trod] at h
  | .st fs, t, fuel + 1, cs, x, hu, h => by
    obtain ⟨f, hu, hc, hfs⟩ := hu
    unfold DataW.trod at h
    rw [hu] at h
    simp only at h
    split at h <;> try simp at h
    rename_i hlen
    obtain ⟨ys, hys, _⟩ := h
    obtain ⟨xs, h1, h2⟩ := trod_rels hsp fs f.toList fuel 0 cs ys hfs (by rw [hlen, hc]; omega) hys
    exact ⟨xs, by simpa using h1, .st h2⟩
theorem trod_rels {H : Type} {enc : TypeId × Value → H} {P : Program} {w : World} {base : Nat} {sp : Nat → Bool} {held : Bool} (hsp : ∀ b, sp b = true) :
    ∀ (tys : List Ty) (fs : List Field) (fuel o : Nat) (cs : List Value) (ys : List (DataW H × List MemPlace)), TysOK P o tys fs → cs.length = o + Ty.nL tys →
      fs.mapM (fun f => DataW.trod enc P w base sp held fuel f.type ((cs.drop f.offset).take (P.cellsOf f.type))) = some ys → ∃ xs, RelL w (Old w) xs (cs.drop o) [] ∧ ShpL tys xs
  | [], [], fuel, o, cs, ys, _, hl, _ => ⟨[], by rw [List.drop_eq_nil_of_le (by rw [hl, Ty.nL]; omega)]; exact .nil, .nil⟩
  | [], _ :: _, fuel, o, cs, ys, hu, hl, h => hu.elim
  | _ :: _, [], fuel, o, cs, ys, hu, hl, h => hu.elim
  | ty :: tys, f :: fs, fuel, o, cs, ys, hu, hl, h => by
    obtain ⟨ho, hc, ht, hts⟩ := hu
    simp only [List.mapM_cons, Option.bind_eq_bind, Option.pure_def, Option.bind_eq_some_iff, Option.some.injEq] at h
    obtain ⟨y, hy, ys', hys', _⟩ := h
    rw [ho, hc] at hy
    obtain ⟨xs1, h1, h2⟩ := trod_rel hsp ty f.type fuel _ _ ht hy
    rw [Ty.nL] at hl
    obtain ⟨xs2, h3, h4⟩ := trod_rels hsp tys fs fuel (o + ty.n) cs ys' hts (by omega) hys'
    refine ⟨xs1 ++ xs2, ?_, .cons h2 h4⟩
    have := h1.append h3
    rw [← List.drop_drop, List.take_append_drop] at this
    simpa using this
end
end Go.Fw

/- The closing of a law's row. Plain theorems, no condition. -/
set_option linter.unusedVariables false
set_option linter.unusedSimpArgs false
namespace Go.Fw
open Go.ChangeShapes Go.WideShapes Go.ChangeAt Go.RowKit
def PlainT (P : Program) (t : TypeId) : Prop := ∃ ty, TyOK P ty t
theorem tys_fields {P : Program} : ∀ {tys : List Ty} {fs : List Field} {o : Nat}, TysOK P o tys fs → (∀ f ∈ fs, PlainT P f.type) ∧ Ty.nL tys = (fs.map fun f => P.cellsOf f.type).sum ∧
    ∀ (j : Nat) f, fs[j]? = some f → f.offset = o + ((fs.take j).map fun f => P.cellsOf f.type).sum
  | [], [], o, _ => ⟨by simp, rfl, by simp⟩
  | [], _ :: _, o, h => h.elim
  | _ :: _, [], o, h => h.elim
  | ty :: tys, f :: fs, o, h => by
    obtain ⟨h1, h2, h3, h4⟩ := h
    obtain ⟨g1, g2, g3⟩ := tys_fields h4
    refine ⟨fun f' hf => ?_, by rw [Ty.nL, g2, ← h2]; simp, fun j f' hj => ?_⟩
    · rcases List.mem_cons.1 hf with rfl | hf
      · exact ⟨ty, h3⟩
      · exact g1 f' hf
    · cases j with
      | zero => simp at hj; subst hj; simp [h1]
      | succ j =>
        have := g3 j f' (by simpa using hj)
        rw [this, ← h2]; simp; omega
theorem kids (P : Program) : Kids P (PlainT P) := by
  refine ⟨?_, ?_, ?_, ?_, ?_⟩
  · rintro t e ⟨ty, h⟩ hu
    cases ty with
    | sl _ => obtain ⟨te, h, _⟩ := h; rw [hu] at h; simp at h
    | st _ => obtain ⟨f, h, _⟩ := h; rw [hu] at h; simp at h
    | _ => rw [TyOK, hu] at h; simp at h
  · rintro t e ⟨ty, h⟩ hu
    cases ty with
    | sl e' => obtain ⟨te, h, _, _, h2⟩ := h; rw [hu] at h; simp at h; subst h; exact ⟨e', h2⟩
    | st _ => obtain ⟨f, h, _⟩ := h; rw [hu] at h; simp at h
    | _ => rw [TyOK, hu] at h; simp at h
  · rintro t e n ⟨ty, h⟩ hu
    cases ty with
    | sl _ => obtain ⟨te, h, _⟩ := h; rw [hu] at h; simp at h
    | st _ => obtain ⟨f, h, _⟩ := h; rw [hu] at h; simp at h
    | _ => rw [TyOK, hu] at h; simp at h
  · rintro t fs ⟨ty, h⟩ hu
    cases ty with
    | sl _ => obtain ⟨te, h, _⟩ := h; rw [hu] at h; simp at h
    | st tys =>
      obtain ⟨f, h, hc, hts⟩ := h
      rw [hu] at h
      simp at h
      subst h
      obtain ⟨g1, g2, g3⟩ := tys_fields hts
      exact ⟨g1, by rw [hc, g2], fun j f hj => by rw [g3 j f hj, Nat.zero_add]⟩
    | _ => rw [TyOK, hu] at h; simp at h
  · rintro t k e ⟨ty, h⟩ hu
    cases ty with
    | sl _ => obtain ⟨te, h, _⟩ := h; rw [hu] at h; simp at h
    | st _ => obtain ⟨f, h, _⟩ := h; rw [hu] at h; simp at h
    | _ => rw [TyOK, hu] at h; simp at h
theorem plain_sz {P : Program} {t e : TypeId} (h : PlainT P t) (hu : P.underlying t = some (.slice e)) : 0 < P.cellsOf e := by
  obtain ⟨ty, h⟩ := h
  cases ty with
  | sl _ => obtain ⟨te, h, hc, hb, _⟩ := h; rw [hu] at h; simp at h; subst h; rw [hc]; exact Nat.le_of_ble_eq_true hb
  | st _ => obtain ⟨f, h, _⟩ := h; rw [hu] at h; simp at h
  | _ => rw [TyOK, hu] at h; simp at h
section
variable {H : Type} {enc : TypeId × Value → H} {P : Program}
theorem stays_all {W W' : World} {sp' : Nat → Bool} : ∀ {ts : List TypeId} {vs : List Value} {ds : List (DataW H)} {ps : List MemPlace}, (∀ t ∈ ts, PlainT P t) → DataW.TrodAll enc P W 0 (fun _ => true) true ts vs ds ps →
    (∀ p ∈ ps, W.sameAt W' p) → (∀ p ∈ ps, sp' p.block = true) → DataW.TrodAll enc P W' 0 sp' true ts vs ds ps
  | [], [], [], ps, _, h, _, _ => h
  | t :: ts, v :: vs, d :: ds, ps, ht, h, hsame, hs => by
    obtain ⟨p, q, ⟨n, hn⟩, hl, rfl⟩ := h
    refine ⟨p, q, ⟨n, ?_⟩, stays_all (fun t h => ht t (by simp [h])) hl (fun x hx => hsame x (by simp [hx])) (fun x hx => hs x (by simp [hx])), rfl⟩
    exact DataW.trod_stays (kids P) plain_sz (by simp) (ht t (by simp)) hn (fun x hx => hsame x (by simp [hx])) (fun x hx => hs x (by simp [hx]))
theorem post_law {f : Func} {s : ChangeSpec} {apart fresh handsOn again : Bool} {W W' : World} {args : Array Value} {ds gs : List (DataW H)} {before : List MemPlace} {tb : TypeId} (hsv : s.vars = [])
    (hW : DataW.Whole enc P f.params.toList s.vars apart W args.toList ds gs before) (htys : ∀ t ∈ f.params.toList, PlainT P t) (hrt : f.resultTypes = #[tb]) (hub : P.underlying tb = some .bool)
    (hfn : s.fn H (ds ++ gs) = { results := [.lit (.bool true)], args := ds }) (hb : Below W.heap.size W W') : s.post enc P f apart fresh handsOn again W args (.bool true) W' := by
  have hW0 := hW
  obtain ⟨p, q, hA, hV, rfl, hfz, hnd⟩ := hW
  rw [hsv] at hV
  obtain ⟨rfl, rfl⟩ := trodVars_none hV
  rw [List.append_nil] at hfz hnd hW0
  have hlt := hW0.lt
  have hsame : ∀ x ∈ p, W.sameAt W' x := fun x hx => hb.same (hlt x hx)
  have hres : ∀ (b : Nat) (sp : Nat → Bool) (hd : Bool), DataW.TrodAll enc P W' b sp hd f.resultTypes.toList ((Value.bool true).resultList f.resultTypes.size) (s.fn H (ds ++ [])).results [] := fun b sp hd => by
    rw [hfn, hrt]
    exact trodAll_cons_mk (shut_bool hub _) trodAll_mk0
  have hargs : ∀ sp : Nat → Bool, (∀ x ∈ p, sp x.block = true) → DataW.TrodAll enc P W' 0 sp true f.params.toList args.toList (s.fn H (ds ++ [])).args p := fun sp hs => by
    rw [hfn]; exact stays_all htys hA hsame hs
  have hvars : ∀ sp : Nat → Bool, DataW.TrodVars enc P W' sp s.vars (s.fn H (ds ++ [])).vars [] := fun sp => by rw [hfn, hsv]; rfl
  have hold : ∀ x ∈ p, (fun b => decide (b < W.heap.size)) x.block = true := fun x hx => by simpa using hlt x hx
  refine ⟨ds, [], p, [], p, [], hW0, hres _ _ _, hargs _ hold, hvars _, World.keptBut_mono (fun x hx => ⟨hx, .inr (.inl hx)⟩) (hb.frame (· ∈ p)), fun _ => ?_⟩
  refine ⟨?_, _, _, ([] ++ p) ++ [], ⟨[] ++ p, [], trodAll_append (hargs _ (fun _ _ => rfl)) (hres 0 (fun _ => true) true), hvars _, rfl, ?_, ?_⟩, ?_⟩
  · intro j t r h1 h2
    exact ok_one (v := .bool true) hrt rfl (okWide_bool_mk hub true) j t r h1 h2
  · intro b off hp
    have hp' : MemPlace.cell b off ∈ p := by simpa using hp
    rw [hb.frozen (p := ⟨b, off, none⟩) (hlt _ hp')]
    exact hfz b off hp'
  · intro ha
    simpa using hnd ha
  · intro x hx _
    simpa using hx
end
mutual
def tyChk (P : Program) : Ty → TypeId → Bool
  | .int k, t => match P.underlying t with | some (.int k') => decide (k' = k) | _ => false
  | .bool, t => match P.underlying t with | some .bool => true | _ => false
  | .str, t => match P.underlying t with | some .string => true | _ => false
  | .sl e, t => match P.underlying t with | some (.slice te) => P.cellsOf te == e.n && (Nat.ble 1 e.n && tyChk P e te) | _ => false
  | .st fs, t => match P.underlying t with | some (.struct f) => P.cellsOf t == Ty.nL fs && tysChk P 0 fs f.toList | _ => false
def tysChk (P : Program) : Nat → List Ty → List Field → Bool
  | _, [], [] => true
  | o, x :: xs, f :: fs => f.offset == o && (P.cellsOf f.type == x.n && (tyChk P x f.type && tysChk P (o + x.n) xs fs))
  | _, _, _ => false
end
mutual
theorem tyChk_ok {P : Program} : ∀ (ty : Ty) (t : TypeId), tyChk P ty t = true → TyOK P ty t
  | .int k, t, h => by
    rw [tyChk] at h; split at h <;> try simp at h
    rename_i hu; subst h; rw [TyOK]; exact hu
  | .bool, t, h => by
    rw [tyChk] at h; split at h <;> try simp at h
    rename_i hu; rw [TyOK]; exact hu
  | .str, t, h => by
    rw [tyChk] at h; split at h <;> try simp at h
    rename_i hu; rw [TyOK]; exact hu
  | .sl e, t, h => by
    rw [tyChk] at h; split at h <;> try simp at h
    rename_i te hu; rw [TyOK]
    exact ⟨te, hu, h.1, by simpa using h.2.1, tyChk_ok e te h.2.2⟩
  | .st fs, t, h => by
    rw [tyChk] at h; split at h <;> try simp at h
    rename_i f hu; rw [TyOK]
    exact ⟨f, hu, h.1, tysChk_ok fs _ _ h.2⟩
theorem tysChk_ok {P : Program} : ∀ (tys : List Ty) (o : Nat) (fs : List Field), tysChk P o tys fs = true → TysOK P o tys fs
  | [], _, [], _ => by rw [TysOK]; trivial
  | [], _, _ :: _, h => by simp [tysChk] at h
  | _ :: _, _, [], h => by simp [tysChk] at h
  | x :: xs, o, f :: fs, h => by
    rw [tysChk] at h
    simp only [Bool.and_eq_true, beq_iff_eq] at h
    rw [TysOK]
    exact ⟨h.1, h.2.1, tyChk_ok x _ h.2.2.1, tysChk_ok xs _ fs h.2.2.2⟩
end
theorem slice_cells {P : Program} {W : World} {base : Nat} {t e : TypeId} {v : Value} (hu : P.underlying t = some (.slice e)) (h : Value.okWide P W .any base t v) : v.cells.toList = [v] := by
  unfold Value.okWide at h
  rw [hu] at h
  simp only at h
  unfold Cell.okWide at h
  rw [hu] at h
  cases v <;> first | rfl | (simp [Cell.ok, hu] at h)
end Go.Fw

/- Shapes of arguments. Plain theorems. -/
set_option linter.unusedVariables false
set_option linter.unusedSimpArgs false
namespace Go.Proofs.YtfmcncflooechaaDoor
open Go Go.Fw
open Go.ChangeShapes Go.WideShapes Go.ChangeAt Go.RowKit
def tyVer : Ty := .st [.int .i64, .int .i64, .int .i64]
theorem shp_i64 {xs : List A} (h : Shp (.int .i64) xs) : ∃ x, xs = [i64 x] := by cases h; exact ⟨_, rfl⟩
theorem shp_str {xs : List A} (h : Shp .str xs) : ∃ x, xs = [str x] ∧ x.length ≤ Go.maxLen := by cases h; exact ⟨_, rfl, by assumption⟩
theorem shp_Ver {xs : List A} (h : Shp tyVer xs) : ∃ v : Ver, xs = v.cells := by
  cases h with | st h =>
  cases h with | cons h1 h =>
  cases h with | cons h2 h =>
  cases h with | cons h3 h =>
  cases h
  obtain ⟨a, rfl⟩ := shp_i64 h1
  obtain ⟨b, rfl⟩ := shp_i64 h2
  obtain ⟨c, rfl⟩ := shp_i64 h3
  exact ⟨⟨a, b, c⟩, rfl⟩
theorem maps_of {α : Type} {f : α → A} {p : α → Prop} : ∀ {ys : List A}, (∀ y ∈ ys, ∃ c, y = f c ∧ p c) → ∃ cs : List α, ys = cs.map f ∧ ∀ c ∈ cs, p c
  | [], _ => ⟨[], rfl, by simp⟩
  | y :: ys, h => by
    obtain ⟨c, rfl, hc⟩ := h y (by simp)
    obtain ⟨cs, rfl, hcs⟩ := maps_of (ys := ys) fun z hz => h z (by simp [hz])
    exact ⟨c :: cs, rfl, fun z hz => by exact (List.mem_cons.1 hz).elim (fun e => e ▸ hc) (hcs z)⟩
theorem shp_sl {e : Ty} {xs : List A} (h : Shp (.sl e) xs) {α : Type} {f : α → A} {p : α → Prop} (hf : ∀ y, Shp e y.cells → y = e.elem y.cells → ∃ c, y = f c ∧ p c) : ∃ cs : List α, xs = [.sl false e.n (cs.map f)] ∧ cs.length ≤ Go.maxLen ∧ ∀ c ∈ cs, p c := by
  cases h with | sl h1 h2 hl =>
  rename_i ys
  obtain ⟨cs, rfl, hp⟩ := maps_of (f := f) (p := p) (ys := ys) fun y hy => hf y (h1 y hy) (h2 y hy)
  exact ⟨cs, rfl, by simpa using hl, hp⟩
def tyChg : Ty := .st [.int .i64, .str, tyVer, tyVer]
theorem shp_Chg {xs : List A} (h : Shp tyChg xs) : ∃ v : Chg, xs = v.cells ∧ v.n.length ≤ Go.maxLen := by
  cases h with | st h =>
  cases h with | cons h1 h =>
  cases h with | cons h2 h =>
  cases h with | cons h3 h =>
  cases h with | cons h4 h =>
  cases h
  obtain ⟨k, rfl⟩ := shp_i64 h1
  obtain ⟨n, rfl, hn⟩ := shp_str h2
  obtain ⟨o, rfl⟩ := shp_Ver h3
  obtain ⟨w, rfl⟩ := shp_Ver h4
  exact ⟨⟨k, n, o, w⟩, rfl, hn⟩
theorem shp_ChgS {xs : List A} (h : Shp (.sl tyChg) xs) : ∃ cs : List Chg, xs = [.sl false 8 (cs.map Chg.enc)] ∧ cs.length ≤ Go.maxLen ∧ ∀ c ∈ cs, c.n.length ≤ Go.maxLen :=
  shp_sl h fun y h1 h2 => by
    obtain ⟨v, hv, hp⟩ := shp_Chg h1
    exact ⟨v, by rw [h2, hv]; rfl, hp⟩
end Go.Proofs.YtfmcncflooechaaDoor

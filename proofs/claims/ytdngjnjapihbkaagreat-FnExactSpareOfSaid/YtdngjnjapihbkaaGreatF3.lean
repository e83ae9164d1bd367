/- What must hold ahead of a code, reckoned step by step: definitions. No theorem of the program. -/
import Derived.Test.YtdngjnjapihbkaaGreatF2
import Derived.StillTail
import Derived.OrdersHeld
set_option linter.unusedVariables false
set_option linter.unusedSimpArgs false
namespace Go.Fw

/-- What is known of a type. -/
structure TI where
  sz : Nat
  bytes : Nat
  el : Option Nat
  ag : Bool
  str : Bool
  bool : Bool
  fs : List (Nat × Nat × Bool)
  z : Option Value
  kind : Option IntKind
def fsT (P : Program) (t : TypeId) : List (Nat × Nat × Bool) :=
  match P.underlying t with
  | some (.struct fs) => (List.range fs.size).map fun i => (fieldT P t i).getD (0, 0, false)
  | _ => []
def tiOf (P : Program) (t : TypeId) : Option TI :=
  match szT P t, aggT P t with
  | some s, some g =>
    if (List.range (fsT P t).length).all (fun i => (fieldT P t i).isSome) && ((fsT P t).isEmpty || placesT P t) then
      some ⟨s, bytesT P t, elemT P t, g, isStrT P t, isBoolT P t, fsT P t, (match zeroT P t with | some v => if okV v then some v else none | none => none), kindT P t⟩
    else none
  | _, _ => none

/-- The reckoning on what is not known is kept shut. -/
structure Opq where
  ar : BinOp → IntKind → Int → Int → Int
  cmp : BinOp → Int → Int → Bool
  neg : IntKind → Int → Int
  cmpS : BinOp → List UInt8 → List UInt8 → Bool
  cmpB : BinOp → Bool → Bool → Bool
  cat : List UInt8 → List UInt8 → List UInt8
  not : Bool → Bool
  ite : Bool → Bool → Bool → Bool
  itA : Bool → A → A → A
  len : List A → Nat
  lenS : List UInt8 → Nat
  int : Nat → Int
  nat : Int → Nat
  plus : Nat → Nat → Nat
  minus : Nat → Nat → Nat
  seg : Nat → Nat → List A → List A
  segS : Nat → Nat → List UInt8 → List UInt8
  take : Nat → List A → List A
  app : List A → List A → List A
  rep : Nat → A → List A
  set : List A → Nat → A → List A
  frz : List A → List A
  u8 : UInt8 → Int
  wrap : IntKind → Int → Int
  cloN : Nat → Nat
  cloA : Nat → List A → List A → List A
def arS (op : BinOp) (k : IntKind) (x y : Int) : Int :=
  match op with
  | .add => k.wrap (x + y)
  | .sub => k.wrap (x - y)
  | .mul => k.wrap (x * y)
  | .quo => k.wrap (x.tdiv y)
  | .rem => x.tmod y
  | .shl => k.wrap (x * 2 ^ y.toNat)
  | .shr => x / 2 ^ y.toNat
  | op => bits op k x y
def cmpIS (op : BinOp) (x y : Int) : Bool :=
  match op with
  | .eql => x == y
  | .neq => x != y
  | .lss => decide (x < y)
  | .leq => decide (x ≤ y)
  | .gtr => decide (x > y)
  | _ => decide (x ≥ y)
def cmpSS (op : BinOp) (x y : List UInt8) : Bool :=
  match op with
  | .eql => x == y
  | .neq => x != y
  | .lss => Op.bytesLess x y
  | .leq => Op.bytesLess x y || x == y
  | .gtr => !(Op.bytesLess x y || x == y)
  | _ => !(Op.bytesLess x y)
def std : Opq where
  ar := arS
  cmp := cmpIS
  neg := fun k n => k.wrap (0 - n)
  cmpS := cmpSS
  cmpB := fun op x y => match op with | .eql => x == y | _ => x != y
  cat := fun x y => x ++ y
  not := fun b => !b
  ite := fun b x y => if b then x else y
  itA := fun b x y => if b then x else y
  len := List.length
  lenS := List.length
  int := fun n => (n : Int)
  nat := Int.toNat
  plus := fun m n => m + n
  minus := fun m n => m - n
  seg := fun l h xs => (xs.take h).drop l
  segS := fun l h xs => (xs.take h).drop l
  take := fun n xs => xs.take n
  app := fun x y => x ++ y
  rep := List.replicate
  set := fun xs j x => xs.set j x
  frz := fun xs => xs.map Fw.frz
  u8 := fun c => (c.toNat : Int)
  wrap := fun k n => k.wrap n
  cloN := Fw.cloN
  cloA := Fw.cloA

/-- A thing to show; looked at by nobody else. -/
structure Ob (f : Unit → Prop) : Prop where
  h : f ()
/-- A loop, or any code that is taken by hand. -/
structure VCX (P : Program) (c : Code) (S : State) (K : Exit → State → Prop) : Prop where
  h : VC P c S K
structure CallX (P : Program) (g : Nat) (args : List A) (S : State) (K : A → State → Prop) : Prop where
  h : CallOK P g args S K
structure HardX (P : Program) (o : Oper) (S : State) (K : State → Prop) : Prop where
  h : opOK P o S K
def brB (p : Bool) (X Y : Unit → Prop) : Prop := match p with | true => X () | false => Y ()

def vPick (Ω : Opq) (c x y : A) (k : A → Prop) : Prop :=
  match c with
  | .sc (.bool b) => (match x, y with
    | .sc (.bool p), .sc (.bool q) => k (.sc (.bool (Ω.ite b p q)))
    | x, y => brB b (fun _ => k x) (fun _ => k y))
  | _ => False
def vUn (Ω : Opq) (op : UnOp) (x : A) (k : A → Prop) : Prop :=
  match op, x with
  | .not, .sc (.bool b) => k (.sc (.bool (Ω.not b)))
  | .neg, .sc (.int kk n) => k (.sc (.int kk (Ω.neg kk n)))
  | _, _ => False
def vBinI (Ω : Opq) (op : BinOp) (kk : IntKind) (a : Int) (kl : IntKind) (b : Int) (k : A → Prop) : Prop :=
  match op with
  | .shl => Ob (fun _ => 0 ≤ b ∧ b ≤ kk.bits) ∧ k (.sc (.int kk (Ω.ar .shl kk a b)))
  | .shr => Ob (fun _ => 0 ≤ b ∧ b ≤ kk.bits) ∧ k (.sc (.int kk (Ω.ar .shr kk a b)))
  | op => if kk = kl then (match op with
    | .add => k (.sc (.int kk (Ω.ar .add kk a b)))
    | .sub => k (.sc (.int kk (Ω.ar .sub kk a b)))
    | .mul => k (.sc (.int kk (Ω.ar .mul kk a b)))
    | .and => k (.sc (.int kk (Ω.ar .and kk a b)))
    | .or => k (.sc (.int kk (Ω.ar .or kk a b)))
    | .xor => k (.sc (.int kk (Ω.ar .xor kk a b)))
    | .andNot => k (.sc (.int kk (Ω.ar .andNot kk a b)))
    | .quo => Ob (fun _ => b ≠ 0) ∧ k (.sc (.int kk (Ω.ar .quo kk a b)))
    | .rem => Ob (fun _ => b ≠ 0) ∧ k (.sc (.int kk (Ω.ar .rem kk a b)))
    | op => k (.sc (.bool (Ω.cmp op a b)))) else False
def vBinS (Ω : Opq) (op : BinOp) (a b : List UInt8) (k : A → Prop) : Prop :=
  match op with
  | .add => Ob (fun _ => ((a.length + b.length : Nat) : Int) ≤ 9223372036854775807) ∧ k (.sc (.string (mkS (Ω.cat a b))))
  | .eql => k (.sc (.bool (Ω.cmpS .eql a b)))
  | .neq => k (.sc (.bool (Ω.cmpS .neq a b)))
  | .lss => k (.sc (.bool (Ω.cmpS .lss a b)))
  | .leq => k (.sc (.bool (Ω.cmpS .leq a b)))
  | .gtr => k (.sc (.bool (Ω.cmpS .gtr a b)))
  | .geq => k (.sc (.bool (Ω.cmpS .geq a b)))
  | _ => False
def vBin (Ω : Opq) (T : Nat → Option TI) (op : BinOp) (t : TypeId) (x y : A) (k : A → Prop) : Prop :=
  match x, y with
  | .sc (.int ka a), .sc (.int kb b) => vBinI Ω op ka a kb b k
  | .sc (.string a), .sc (.string b) => vBinS Ω op (bs a) (bs b) k
  | .sc (.bool a), .sc (.bool b) => (match T t, op with
    | some i, .eql => if i.bool then k (.sc (.bool (Ω.cmpB .eql a b))) else False
    | some i, .neq => if i.bool then k (.sc (.bool (Ω.cmpB .neq a b))) else False
    | _, _ => False)
  | _, _ => False
/-- Two structs. -/
structure EqX (P : Program) (op : BinOp) (t : TypeId) (xs ys : List A) (k : A → Prop) : Prop where
  h : ∃ (us vs : List Value) (b : Bool), xs = us.map A.sc ∧ ys = vs.map A.sc ∧ (∀ (x y : Operand) (w : World), (do eqGuard op t x y (.agg us.toArray) (.agg vs.toArray); binOp op t (.agg us.toArray) (.agg vs.toArray) : Sem Value).run P w = .ok (.bool b) w) ∧ k (.sc (.bool b))
def vBinA (Ω : Opq) (P : Program) (T : Nat → Option TI) (op : BinOp) (t : TypeId) (x y : A) (k : A → Prop) : Prop :=
  match x, y with
  | .agg xs, .agg ys => EqX P op t xs ys k
  | x, y => vBin Ω T op t x y k
def vBinN (Ω : Opq) (P : Program) (T : Nat → Option TI) (op : BinOp) (t : TypeId) (x y : A) (k : A → Prop) : Prop :=
  match x, y with
  | .sl false _ xs, .nil => (match T t, op with
    | some i, .eql => if i.el.isSome then ∀ b, (b = true → xs = []) → k (.sc (.bool b)) else False
    | some i, .neq => if i.el.isSome then ∀ b, (b = false → xs = []) → k (.sc (.bool b)) else False
    | _, _ => False)
  | x, y => vBinA Ω P T op t x y k
def vLen (Ω : Opq) (T : Nat → Option TI) (t : TypeId) (x : A) (k : A → Prop) : Prop :=
  match T t with
  | some i => (match x with
    | .nil => if i.el.isSome && !i.str then k (.sc (.int .i64 0)) else False
    | .sl false _ xs => if i.el.isSome && !i.str then k (.sc (.int .i64 (Ω.int (Ω.len xs)))) else False
    | .vw _ _ len => if i.el.isSome && !i.str then k (.sc (.int .i64 (Ω.int len))) else False
    | .sc (.string s) => if i.str then k (.sc (.int .i64 (Ω.int (Ω.lenS (bs s))))) else False
    | _ => False)
  | none => False
def vCell (i : TI) (n : Nat) (y : A) (q : Nat) (k : A → Prop) : Prop :=
  if i.ag then (if q + i.sz ≤ n then (if ((y.cells.drop q).take i.sz).all noOwn then k (.agg ((y.cells.drop q).take i.sz)) else False) else False)
  else match y.cells[q]? with
    | some z => if noOwn z then k z else False
    | none => False
def vCellS (Ω : Opq) (i : TI) (S : State) (r j : Nat) (row : Row) (y : A) (q : Nat) (k : A → State → Prop) : Prop :=
  if i.ag then (if q + i.sz ≤ row.n then (if ((y.cells.drop q).take i.sz).all noOwn then k (.agg ((y.cells.drop q).take i.sz)) S else False) else False)
  else match y.cells[q]? with
    | some (.sl true n ys) => k (.vw S.rows.length 0 (Ω.len ys)) ((S.setRow r ⟨row.n, Ω.set row.xs j (newElem y q [.un]), false⟩).addRow ⟨n, ys, false⟩)
    | some z => if noOwn z then k z S else False
    | none => False
def vLoad (T : Nat → Option TI) (t : TypeId) (S : State) (x : A) (k : A → Prop) : Prop :=
  match T t with
  | some i => (match x with
    | .rp xs => if i.ag then (if i.sz ≤ xs.length then k (.agg (xs.take i.sz)) else False) else (match xs[0]? with
      | some z => k z
      | none => False)
    | .pt r j q => (match rowAt S.rows r with
      | some row => (match row.lk with
        | true => (match row.xs[j]? with
          | some y => vCell i row.n y q k
          | none => False)
        | false => ∃ y, row.xs[j]? = some y ∧ vCell i row.n y q k)
      | none => False)
    | _ => False)
  | none => False
/-- A load; an own slice in an own row of data is taken out of it. -/
def vLoadS (Ω : Opq) (T : Nat → Option TI) (t : TypeId) (S : State) (x : A) (k : A → State → Prop) : Prop :=
  match T t with
  | some i => (match x with
    | .rp xs => if i.ag then (if i.sz ≤ xs.length then k (.agg (xs.take i.sz)) S else False) else (match xs[0]? with
      | some z => k z S
      | none => False)
    | .pt r j q => (match rowAt S.rows r with
      | some row => (match row.lk with
        | true => (match row.xs[j]? with
          | some y => vCell i row.n y q fun z => k z S
          | none => False)
        | false => ∃ y, row.xs[j]? = some y ∧ vCellS Ω i S r j row y q k)
      | none => False)
    | _ => False)
  | none => False
def vFieldAddr (T : Nat → Option TI) (t : TypeId) (i : Nat) (x : A) (k : A → Prop) : Prop :=
  match T t with
  | some ti => (match ti.fs[i]? with
    | some (off, s, _) => if s = 0 then False else (match x with
      | .pt r j q => k (.pt r j (q + off))
      | .rp xs => k (.rp (xs.drop off))
      | _ => False)
    | none => False)
  | none => False
def vField (T : Nat → Option TI) (t : TypeId) (i : Nat) (x : A) (k : A → Prop) : Prop :=
  match T t, x with
  | some ti, .agg xs => (match ti.fs[i]? with
    | some (off, s, g) => if off + s ≤ xs.length then (if g then k (.agg ((xs.drop off).take s)) else if s = 1 then k (xs.getD off .un) else False) else False
    | none => False)
  | _, _ => False
def szEl (T : Nat → Option TI) (t : TypeId) : Option (Nat × TI) :=
  match T t with
  | some i => (match i.el with
    | some e => (match T e with
      | some j => some (e, j)
      | none => none)
    | none => none)
  | none => none
def vIndexAddr (Ω : Opq) (T : Nat → Option TI) (t : TypeId) (S : State) (x y : A) (k : A → Prop) : Prop :=
  match szEl T t, y with
  | some (_, ti), .sc (.int _ i) => (match x with
    | .vw r off len => (match rowAt S.rows r with
      | some row => if ti.sz = row.n then Ob (fun _ => 0 ≤ i ∧ i < len) ∧ k (.pt r (Ω.plus off (Ω.nat i)) 0) else False
      | none => False)
    | .sl false n xs => if ti.sz = n then Ob (fun _ => 0 ≤ i) ∧ ∃ z, xs[i.toNat]? = some z ∧ k (.rp z.cells) else False
    | _ => False)
  | _, _ => False
def vIndex (Ω : Opq) (T : Nat → Option TI) (t : TypeId) (x y : A) (k : A → Prop) : Prop :=
  match T t, x, y with
  | some ti, .sc (.string s), .sc (.int _ i) => if ti.str then Ob (fun _ => 0 ≤ i) ∧ ∃ c, (bs s)[i.toNat]? = some c ∧ k (.sc (.int .u8 (Ω.u8 c))) else False
  | _, _, _ => False
def vExtract (x : A) (i : Nat) (k : A → Prop) : Prop :=
  match x with
  | .tup xs => (match xs[i]? with
    | some z => k z
    | none => False)
  | _ => False
def vNilCheck (x : A) (k : A → Prop) : Prop :=
  match x with
  | .pt r j q => k (.pt r j q)
  | .rp xs => k (.rp xs)
  | _ => False
def vBox (S : State) (x : A) (k : A → State → Prop) : Prop :=
  if x.cells.all okCell then k (.pt S.rows.length 0 0) (S.addRow ⟨x.width, [x], true⟩) else False
def vAlloc (T : Nat → Option TI) (t : TypeId) (S : State) (k : A → State → Prop) : Prop :=
  match T t with
  | some i => (match i.z with
    | some z => k (.pt S.rows.length 0 0) (S.addRow ⟨(constA z).width, [constA z], true⟩)
    | none => False)
  | none => False
def fillF (fs : List (Nat × Nat × Bool)) : List A → List (Nat × A) → Option (List A)
  | cells, [] => some cells
  | cells, (i, x) :: rest =>
    match fs[i]? with
    | none => none
    | some (off, s, _) =>
      if x.cells.length = s then (if off + s ≤ cells.length then fillF fs (cells.take off ++ x.cells ++ cells.drop (off + s)) rest else none) else none
def vBuild (T : Nat → Option TI) (t : TypeId) (parts : List (Nat × A)) (k : A → Prop) : Prop :=
  match T t with
  | some i => (match i.z with
    | some (.agg z) => if i.fs.isEmpty then False else if parts.all (fun p => p.2.cells.all okCell) then (match fillF i.fs (z.toList.map cellA) parts with
      | some res => k (.agg res)
      | none => False) else False
    | _ => False)
  | none => False
def isVw : A → Bool
  | .vw _ _ _ => true
  | _ => false
/-- Values on their way into memory. -/
def vStash (Ω : Opq) : Nat → State → List A → (List A → State → List Nat → Prop) → Prop
  | _, S, [], k => k [] S []
  | 0, _, _ :: _, _ => False
  | n + 1, S, x :: xs, k =>
    match x with
    | .vw r off len => (match rowAt S.rows r with
      | some row => if row.lk then False else Ob (fun _ => off = 0 ∧ len ≤ row.xs.length) ∧ vStash Ω n (S.turn r none) (xs.map (kill r)) fun ys S' ks => k (.sl true row.n (Ω.take len row.xs) :: ys) S' (r :: ks)
      | none => False)
    | x => if isData x then vStash Ω n S xs fun ys S' ks => k (x :: ys) S' ks else False
def isAggN (n : Nat) : A → Bool
  | .agg xs => xs.length == n
  | _ => false
def vStore (Ω : Opq) (T : Nat → Option TI) (t : TypeId) (S : State) (x y : A) (k : State → Prop) : Prop :=
  match T t, x with
  | some i, .pt r j q => (match rowAt S.rows r with
    | some row =>
      if y.cells.length = i.sz then (if 0 < i.sz then (if q + i.sz ≤ row.n then (if y.cells.all okCell then
        (match row.lk with
        | true => (match row.xs[j]? with
          | some z => k (S.setRow r { row with xs := row.xs.set j (newElem z q y.cells) })
          | none => False)
        | false => vStash Ω y.cells.length S y.cells fun ys S' ks => if ks.contains r then False else
            if q = 0 ∧ i.sz = row.n ∧ (isAggA y) then Ob (fun _ => j < row.xs.length ∧ ∀ z ∈ row.xs, isAggN row.n z = true) ∧ k (S'.setRow r { row with xs := Ω.set row.xs j (.agg ys) })
            else if row.n = 1 then Ob (fun _ => j < row.xs.length ∧ ∀ z ∈ row.xs, isAggA z = false) ∧ k (S'.setRow r { row with xs := Ω.set row.xs j (ys.headD .un) })
            else ∃ z, row.xs[j]? = some z ∧ k (S'.setRow r { row with xs := Ω.set row.xs j (newElem z q ys) }))
        else False) else False) else False) else False
    | none => False)
  | _, _ => False
where isAggA : A → Bool
  | .agg _ => true
  | _ => false
def vBuildSlice (Ω : Opq) (T : Nat → Option TI) (t : TypeId) (len : Nat) (parts : List (Nat × A)) (S : State) (k : A → State → Prop) : Prop :=
  match szEl T t with
  | some (_, ti) =>
    if ti.z.isSome ∧ 0 < ti.sz ∧ len * ti.sz ≤ 16777216 ∧ len = parts.length ∧ parts.map (·.1) = List.range' 0 len ∧ parts.all (fun p => p.2.width == ti.sz) ∧ (flat (parts.map (·.2))).all okCell then
      vStash Ω (flat (parts.map (·.2))).length S (flat (parts.map (·.2))) fun ys S' _ => k (.vw S.rows.length 0 len) (S'.addRow ⟨ti.sz, regroup (parts.map (·.2)) ys, false⟩)
    else False
  | none => False
def vMake (Ω : Opq) (T : Nat → Option TI) (t : TypeId) (x y : A) (S : State) (k : A → State → Prop) : Prop :=
  match szEl T t, x, y with
  | some (_, ti), .sc (.int _ a), .sc (.int _ b) => (match ti.z with
    | some z => if (constA z).width = ti.sz ∧ 0 < ti.sz then Ob (fun _ => a = b ∧ 0 ≤ a ∧ ti.bytes * a.toNat ≤ 140737488355328 ∧ a.toNat ≤ maxLen) ∧
        k (.vw S.rows.length 0 (Ω.nat a)) (S.addRow ⟨ti.sz, Ω.rep (Ω.nat a) (constA z), false⟩) else False
    | none => False)
  | _, _, _ => False
def vLo (Ω : Opq) (x : Option A) (d : Nat) (k : (Unit → Prop) → Nat → Prop) : Prop :=
  match x with
  | none => k (fun _ => True) d
  | some (.sc (.int _ n)) => k (fun _ => 0 ≤ n) (Ω.nat n)
  | _ => False
def vSlice (Ω : Opq) (T : Nat → Option TI) (t : TypeId) (S : State) (x : A) (lo hi : Option A) (k : A → Prop) : Prop :=
  match T t with
  | some ti => (match x with
    | .sc (.string s) => if ti.str then vLo Ω lo 0 fun c1 l => vLo Ω hi (Ω.lenS (bs s)) fun c2 h => Ob (fun _ => c1 () ∧ c2 () ∧ l ≤ h ∧ h ≤ (bs s).length) ∧ k (.sc (.string (mkS (Ω.segS l h (bs s))))) else False
    | .vw r off len => (match rowAt S.rows r, szEl T t with
      | some row, some (_, ei) => if ei.sz = row.n then vLo Ω lo 0 fun c1 l => vLo Ω hi len fun c2 h => Ob (fun _ => c1 () ∧ c2 () ∧ l ≤ h ∧ h ≤ len) ∧ k (.vw r (Ω.plus off l) (Ω.minus h l)) else False
      | _, _ => False)
    | .sl false n xs => (match szEl T t with
      | some (_, ei) => if ei.sz = n then vLo Ω lo 0 fun c1 l => vLo Ω hi (Ω.len xs) fun c2 h => Ob (fun _ => c1 () ∧ c2 () ∧ l ≤ h ∧ h ≤ xs.length) ∧ k (.sl false n (Ω.seg l h xs)) else False
      | none => False)
    | _ => False)
  | none => False
def zOK (ti : TI) : Bool :=
  match ti.z with
  | some z => (constA z).width == ti.sz && decide (0 < ti.sz)
  | none => false
/-- 'mv': the second one is a slice that nobody else will use. -/
def vAppend (Ω : Opq) (T : Nat → Option TI) (t : TypeId) (mv : Bool) (S : State) (x y : A) (k : A → State → Prop) : Prop :=
  match szEl T t with
  | some (_, ti) => if zOK ti then (match x with
    | .vw r off len => (match rowAt S.rows r with
      | some row => if off = 0 ∧ ti.sz = row.n ∧ row.lk = false then (match mv, y with
        | true, .vw r2 off2 len2 => (match rowAt S.rows r2 with
          | some row2 => if off2 = 0 ∧ row2.lk = false ∧ r2 ≠ r ∧ row2.n = row.n then
              Ob (fun _ => len2 = row2.xs.length ∧ (∀ c ∈ flat row2.xs, okCell c = true) ∧ (len + row2.xs.length) * ti.bytes ≤ 140737488355328 ∧ len + row2.xs.length ≤ maxLen) ∧
              k (.vw r 0 (Ω.plus len (Ω.len row2.xs))) ((S.turn r2 none).turn r (some ⟨row.n, Ω.app (Ω.take len row.xs) row2.xs, false⟩)) else False
          | none => False)
        | _, .nil => Ob (fun _ => len * ti.bytes ≤ 140737488355328 ∧ len ≤ maxLen) ∧ k (.vw r 0 len) (S.turn r (some ⟨row.n, Ω.take len row.xs, false⟩))
        | _, .sl false n xs2 => if n = row.n then
              Ob (fun _ => (∀ y ∈ xs2, noOwn y = true) ∧ (∀ c ∈ flat xs2, okCell c = true) ∧ (len + xs2.length) * ti.bytes ≤ 140737488355328 ∧ len + xs2.length ≤ maxLen) ∧
              k (.vw r 0 (Ω.plus len (Ω.len xs2))) (S.turn r (some ⟨row.n, Ω.app (Ω.take len row.xs) xs2, false⟩)) else False
        | _, .vw r2 off2 len2 => (match rowAt S.rows r2 with
          | some row2 => if row2.lk = false ∧ row2.n = row.n then
              Ob (fun _ => off2 + len2 ≤ row2.xs.length ∧ (∀ y ∈ (row2.xs.drop off2).take len2, noOwn y = true) ∧ (∀ c ∈ flat ((row2.xs.drop off2).take len2), okCell c = true) ∧ (len + len2) * ti.bytes ≤ 140737488355328 ∧ len + len2 ≤ maxLen) ∧
              k (.vw r 0 (Ω.plus len len2)) (S.turn r (some ⟨row.n, Ω.app (Ω.take len row.xs) (Ω.seg off2 (Ω.plus off2 len2) row2.xs), false⟩)) else False
          | none => False)
        | _, _ => False) else False
      | none => False)
    | .nil => (match y with
      | .nil => k .nil S
      | .sl false n xs2 => if n = ti.sz then Ob (fun _ => (∀ y ∈ xs2, noOwn y = true) ∧ (∀ c ∈ flat xs2, okCell c = true) ∧ xs2.length * ti.bytes ≤ 140737488355328 ∧ xs2.length ≤ maxLen) ∧
          k (.vw S.rows.length 0 (Ω.len xs2)) (S.addRow ⟨ti.sz, xs2, false⟩) else False
      | .vw r2 off2 len2 => (match rowAt S.rows r2 with
        | some row2 => if row2.lk = false ∧ row2.n = ti.sz then
            Ob (fun _ => off2 + len2 ≤ row2.xs.length ∧ (∀ y ∈ (row2.xs.drop off2).take len2, noOwn y = true) ∧ (∀ c ∈ flat ((row2.xs.drop off2).take len2), okCell c = true) ∧ len2 * ti.bytes ≤ 140737488355328 ∧ len2 ≤ maxLen) ∧
            k (.vw S.rows.length 0 len2) (S.addRow ⟨ti.sz, Ω.seg off2 (Ω.plus off2 len2) row2.xs, false⟩) else False
        | none => False)
      | _ => False)
    | _ => False) else False
  | none => False

def vConv (Ω : Opq) (T : Nat → Option TI) (src dst : TypeId) (S : State) (x : A) (k : A → Prop) : Prop :=
  match T src, T dst with
  | some i, some j => (match x with
    | .sc (.int _ n) => (match j.kind with
      | some kk => k (.sc (.int kk (Ω.wrap kk n)))
      | none => False)
    | .sc (.string s) => if i.str && j.str then k (.sc (.string s)) else False
    | .vw r off len => (match rowAt S.rows r, szEl T src with
      | some row, some (_, e) => (match e.kind with
        | some .u8 => if row.n = 1 ∧ j.str = true then ∃ ns, (off + len ≤ row.xs.length ∧ (row.xs.drop off).take len = ns.map byteA) ∧ k (.sc (.string (mkS ns))) else False
        | _ => False)
      | _, _ => False)
    | .sl false n xs => (match szEl T src with
      | some (_, e) => (match e.kind with
        | some .u8 => if n = 1 ∧ j.str = true then ∃ ns, xs = ns.map byteA ∧ k (.sc (.string (mkS ns))) else False
        | _ => False)
      | _ => False)
    | _ => False)
  | _, _ => False
/-- From an own row of data what lies behind is made zero. -/
def vClear (Ω : Opq) (T : Nat → Option TI) (t : TypeId) (S : State) (x : A) (k : A → State → Prop) : Prop :=
  match szEl T t, x with
  | some (_, ti), .vw r off len => (match rowAt S.rows r, ti.z with
    | some row, some z => if row.lk = false ∧ row.n = 1 ∧ ti.sz = 1 ∧ isAggV z = false then
        Ob (fun _ => off + len = row.xs.length ∧ ∀ y ∈ row.xs, isAggB y = false) ∧ k (.tup []) (S.setRow r ⟨row.n, Ω.app (Ω.take off row.xs) (Ω.rep len (cellA z)), false⟩) else False
    | _, _ => False)
  | _, _ => False
def vMakeFn (f : Fn) (first : List A) (caps : List A) (k : A → Prop) : Prop :=
  match f, first with
  | .func g, [] => if g < 1000000 then k (.clo g caps) else False
  | .func g, first => (match caps with
    | [] => if g < 1000000 then k (.clo (1000000 + g) first) else False
    | _ => False)
  | _, _ => False
def vCall (Ω : Opq) (P : Program) (T : Nat → Option TI) (mv : Option Nat) (S : State) (f : Callee) (args : List Operand) (ts : List TypeId) (k : A → State → Prop) : Prop :=
  match f with
  | .value (.func g) => if g < 1000000 then CallX P g (args.map (ev S)) S k else False
  | .value f => (match ev S f with
    | .clo g caps => CallX P (Ω.cloN g) (Ω.cloA g (args.map (ev S)) caps) S k
    | _ => False)
  | .builtin .clear => (match args, ts with
    | [x], [t] => vClear Ω T t S (ev S x) k
    | _, _ => False)
  | .builtin .len => (match args, ts with
    | [x], [t] => vLen Ω T t (ev S x) fun z => k z S
    | _, _ => False)
  | .builtin .append => (match args, ts with
    | [x, y], [t, t'] => if t = t' then vAppend Ω T t (match y with
      | .tmp i => mv == some i
      | _ => false) S (ev S x) (ev S y) k else False
    | _, _ => False)
  | _ => False
def vOp (Ω : Opq) (P : Program) (T : Nat → Option TI) (mv : Option Nat) (o : Oper) (S : State) (K : State → Prop) : Prop :=
  match o.op with
  | .move x => K (S.put o.dst (ev S x))
  | .assign x => K (S.put o.dst (ev S x))
  | .pick c x y => vPick Ω (ev S c) (ev S x) (ev S y) fun z => K (S.put o.dst z)
  | .unOp op _ x => vUn Ω op (ev S x) fun z => K (S.put o.dst z)
  | .binOp op t x y _ => vBinN Ω P T op t (ev S x) (ev S y) fun z => K (S.put o.dst z)
  | .load t x => vLoadS Ω T t S (ev S x) fun z S' => K (S'.put o.dst z)
  | .fieldAddr t x i => vFieldAddr T t i (ev S x) fun z => K (S.put o.dst z)
  | .field t x i => vField T t i (ev S x) fun z => K (S.put o.dst z)
  | .indexAddr t x y => vIndexAddr Ω T t S (ev S x) (ev S y) fun z => K (S.put o.dst z)
  | .index t x y => vIndex Ω T t (ev S x) (ev S y) fun z => K (S.put o.dst z)
  | .extract x i => vExtract (ev S x) i fun z => K (S.put o.dst z)
  | .nilCheck x => vNilCheck (ev S x) fun z => K (S.put o.dst z)
  | .box _ x => vBox S (ev S x) fun z S' => K (S'.put o.dst z)
  | .alloc t => vAlloc T t S fun z S' => K (S'.put o.dst z)
  | .build t parts => vBuild T t (parts.toList.map fun p => (p.1, ev S p.2)) fun z => K (S.put o.dst z)
  | .store t x y => vStore Ω T t S (ev S x) (ev S y) fun S' => K (S'.put o.dst .un)
  | .buildSlice t len parts => vBuildSlice Ω T t len (parts.toList.map fun p => (p.1, ev S p.2)) S fun z S' => K (S'.put o.dst z)
  | .makeSlice t x y => vMake Ω T t (ev S x) (ev S y) S fun z S' => K (S'.put o.dst z)
  | .slice t x lo hi none => vSlice Ω T t S (ev S x) (lo.map (ev S)) (hi.map (ev S)) fun z => K (S.put o.dst z)
  | .convert src dst x => vConv Ω T src dst S (ev S x) fun z => K (S.put o.dst z)
  | .makeFunc f first caps => vMakeFn f (first.toList.map (ev S)) (caps.toList.map (ev S)) fun z => K (S.put o.dst z)
  | .call c => vCall Ω P T mv S c.callee c.args.toList c.argTypes.toList fun z S' => K (S'.put o.dst z)
  | _ => HardX P o S K
/-- Who was just made. -/
def madeBy (o : Oper) : Option Nat :=
  match o.op with
  | .buildSlice _ _ _ => o.dst
  | _ => none
def guardAt (ops : List Oper) (j : Nat) : Option Nat := (ops[j]?).bind (·.dst)
def vOps (Ω : Opq) (P : Program) (T : Nat → Option TI) (ops : List Oper) : Option Nat → List Oper → State → (State → Prop) → Prop
  | _, [], S, K => K S
  | mv, o :: os, S, K =>
    match o.guard with
    | none => vOp Ω P T mv o S fun S' => vOps Ω P T ops (madeBy o) os S' K
    | some (j, b) =>
      match guardAt ops j with
      | none => False
      | some i => if i < S.N then (match lk S.t i with
        | .sc (.bool p) => brB p
            (fun _ => match b with
              | true => vOp Ω P T mv o (S.put (some i) (.sc (.bool true))) fun S' => vOps Ω P T ops (madeBy o) os S' K
              | false => vOps Ω P T ops none os ((S.put (some i) (.sc (.bool true))).put o.dst (.tup [])) K)
            (fun _ => match b with
              | true => vOps Ω P T ops none os ((S.put (some i) (.sc (.bool false))).put o.dst (.tup [])) K
              | false => vOp Ω P T mv o (S.put (some i) (.sc (.bool false))) fun S' => vOps Ω P T ops (madeBy o) os S' K)
        | .tup [] => vOps Ω P T ops none os (S.put o.dst (.tup [])) K
        | _ => False) else False
def vC (Ω : Opq) (P : Program) (T : Nat → Option TI) : Code → State → (Exit → State → Prop) → Prop
  | .skip, S, K => K .normal S
  | .exit id, S, K => K (.exit id) S
  | .ret, S, K => K .ret S
  | .seq x y, S, K => vC Ω P T x S (thenK (fun S' => vC Ω P T y S' K) K)
  | .block id c, S, K => vC Ω P T c S (blockK id K)
  | .cond x c d, S, K => (match ev S x with
    | .sc (.bool p) => brB p (fun _ => vC Ω P T c S K) (fun _ => vC Ω P T d S K)
    | _ => False)
  | .region _ ops false, S, K => vOps Ω P T ops.toList none ops.toList S (K .normal)
  | c, S, K => VCX P c S K
end Go.Fw

/- The reckoning is sound. Plain theorems, no condition. -/
set_option linter.unusedVariables false
set_option linter.unusedSimpArgs false
namespace Go.Fw

structure TIok (P : Program) (t : TypeId) (i : TI) : Prop where
  sz : szT P t = some i.sz
  bytes : bytesT P t = i.bytes
  el : elemT P t = i.el
  ag : aggT P t = some i.ag
  str : isStrT P t = i.str
  bool : isBoolT P t = i.bool
  fs : ∀ k f, i.fs[k]? = some f → fieldT P t k = some f
  z : ∀ v, i.z = some v → zeroT P t = some v ∧ okV v = true
  pl : i.fs.isEmpty = false → placesT P t = true
  kind : kindT P t = i.kind
theorem fsT_at {P : Program} {t : TypeId} (h : (List.range (fsT P t).length).all (fun i => (fieldT P t i).isSome) = true) {k : Nat} {f : Nat × Nat × Bool} (hf : (fsT P t)[k]? = some f) : fieldT P t k = some f := by
  have hk : k < (fsT P t).length := (List.getElem?_eq_some_iff.1 hf).1
  have h1 := List.all_eq_true.1 h k (List.mem_range.2 hk)
  unfold fsT at hf
  split at hf
  · rename_i fs hu
    rw [List.getElem?_map, Option.map_eq_some_iff] at hf
    obtain ⟨j, hj, hf⟩ := hf
    obtain ⟨hj1, hj2⟩ := List.getElem?_eq_some_iff.1 hj
    rw [List.getElem_range] at hj2
    subst hj2
    rw [Option.isSome_iff_exists] at h1
    obtain ⟨g, hg⟩ := h1
    rw [hg] at hf ⊢
    simpa using hf
  · simp at hf
theorem tiOf_ok {P : Program} {t : TypeId} {i : TI} (h : tiOf P t = some i) : TIok P t i := by
  unfold tiOf at h
  split at h
  · rename_i s g hs hg
    split at h
    · rename_i hc
      simp only [Bool.and_eq_true, Bool.or_eq_true] at hc
      cases h
      refine ⟨hs, rfl, rfl, hg, rfl, rfl, fun k f hf => fsT_at hc.1 hf, fun v hv => ?_, fun he => ?_, rfl⟩
      · dsimp only at hv
        split at hv
        · rename_i v' hz
          split at hv
          · rename_i ho
            cases hv; exact ⟨hz, ho⟩
          · simp at hv
        · simp at hv
      · rcases hc.2 with h | h
        · dsimp only at he; rw [h] at he; simp at he
        · exact h
    · simp at h
  · simp at h
def TabOK (P : Program) (T : Nat → Option TI) : Prop := ∀ t i, T t = some i → tiOf P t = some i

section
variable {P : Program} {T : Nat → Option TI} {S : State} {o : Oper} {K : State → Prop}
theorem szEl_ok (hT : TabOK P T) {t e : Nat} {ti : TI} (h : szEl T t = some (e, ti)) : elemT P t = some e ∧ TIok P e ti := by
  unfold szEl at h
  split at h <;> try simp at h
  rename_i i hi
  split at h <;> try simp at h
  rename_i e' he
  split at h <;> try simp at h
  rename_i j hj
  obtain ⟨rfl, rfl⟩ := h
  exact ⟨(tiOf_ok (hT _ _ hi)).el.trans he, tiOf_ok (hT _ _ hj)⟩
theorem vPick_ok {k : A → Prop} {c x y : Operand} (ho : o.op = .pick c x y) (h : vPick std (ev S c) (ev S x) (ev S y) k) : ∃ z, VOK P o S z ∧ k z := by
  unfold vPick at h
  split at h <;> try exact h.elim
  rename_i b hb
  refine ⟨_, VOK_pick (b := b) ho rfl rfl hb rfl, ?_⟩
  split at h
  · rename_i p q hp hq
    rw [hp, hq]; exact h
  · rename_i hn
    have : pickA b (ev S x) (ev S y) = if b then ev S x else ev S y := by
      unfold pickA
      split
      · rename_i p q hp hq
        exact (hn p q hp hq).elim
      · rfl
    rw [this]
    cases b with
    | true => exact h
    | false => exact h
theorem vUn_ok {k : A → Prop} {op : UnOp} {t : TypeId} {x : Operand} (ho : o.op = .unOp op t x) (h : vUn std op (ev S x) k) : ∃ z, VOK P o S z ∧ k z := by
  unfold vUn at h
  split at h <;> try exact h.elim
  · rename_i b hb
    exact ⟨_, VOK_unOp ho rfl hb rfl, h⟩
  · rename_i k n hn
    exact ⟨_, VOK_unOp ho rfl hn rfl, h⟩
theorem vBin_ok {k : A → Prop} (hT : TabOK P T) {op : BinOp} {t t' : TypeId} {x y : Operand} (ho : o.op = .binOp op t x y t') (h : vBin std T op t (ev S x) (ev S y) k) : ∃ z, VOK P o S z ∧ k z := by
  unfold vBin at h
  split at h <;> try exact h.elim
  · rename_i ka a kb b h1 h2
    have go : (binS P op t (.int ka a) (.int kb b)).1 → k (.sc (binS P op t (.int ka a) (.int kb b)).2) → ∃ z, VOK P o S z ∧ k z := fun hc hk => ⟨_, VOK_binOp ho rfl rfl h1 h2 hc, hk⟩
    unfold vBinI at h
    split at h
    · exact go h.1.h h.2
    · exact go h.1.h h.2
    · split at h <;> try exact h.elim
      rename_i hk
      subst hk
      split at h
      · exact go rfl h
      · exact go rfl h
      · exact go rfl h
      · exact go rfl h
      · exact go rfl h
      · exact go rfl h
      · exact go rfl h
      · exact go ⟨rfl, h.1.h⟩ h.2
      · exact go ⟨rfl, h.1.h⟩ h.2
      · cases op <;> first | exact go rfl h | simp_all
  · rename_i a b h1 h2
    have go : (binS P op t (.string a) (.string b)).1 → k (.sc (binS P op t (.string a) (.string b)).2) → ∃ z, VOK P o S z ∧ k z := fun hc hk => ⟨_, VOK_binOp ho rfl rfl h1 h2 hc, hk⟩
    unfold vBinS at h
    split at h <;> try exact h.elim
    · exact go h.1.h h.2
    all_goals exact go trivial h
  · rename_i a b h1 h2
    split at h <;> try exact h.elim
    · rename_i i hi
      split at h <;> try exact h.elim
      rename_i hb
      exact ⟨_, VOK_binOp ho rfl rfl h1 h2 (by rw [← (tiOf_ok (hT _ _ hi)).bool] at hb; exact hb), h⟩
    · rename_i i hi
      split at h <;> try exact h.elim
      rename_i hb
      exact ⟨_, VOK_binOp ho rfl rfl h1 h2 (by rw [← (tiOf_ok (hT _ _ hi)).bool] at hb; exact hb), h⟩
theorem sc_vals {G : Nat → Prop} {gs : Gh} {w : World} {rows : List (Option Row)} : ∀ {us : List Value} {vs : List Value}, TRelL w G rows gs (us.map A.sc) vs [] → vs = us
  | [], vs, h => by
    generalize hF : ([] : List Nat) = F at h
    cases h
    rfl
  | u :: us, vs, h => by
    generalize hF : ([] : List Nat) = F at h
    cases h with
    | cons h hl =>
      rename_i v F1 vs Fs
      have hF' : F1 = [] ∧ Fs = [] := by simpa using hF.symm
      obtain ⟨rfl, rfl⟩ := hF'
      rw [(sc_inv h).1, sc_vals hl]
theorem vBinA_ok {k : A → Prop} (hT : TabOK P T) {op : BinOp} {t t' : TypeId} {x y : Operand} (ho : o.op = .binOp op t x y t') (h : vBinA std P T op t (ev S x) (ev S y) k) : ∃ z, VOK P o S z ∧ k z := by
  unfold vBinA at h
  split at h
  · rename_i xs ys h1 h2
    obtain ⟨us, vs, b, rfl, rfl, hr, hk⟩ := h.h
    refine ⟨_, fun E G gs a w hi => ⟨.bool b, fun w' hw' => ?_, .of (.sc rfl)⟩, hk⟩
    have e1 := ev_rel hi x rfl
    have e2 := ev_rel hi y rfl
    rw [h1] at e1
    rw [h2] at e2
    obtain ⟨cs, v1, l1⟩ := agg_inv e1
    obtain ⟨ds, v2, l2⟩ := agg_inv e2
    have d1 := sc_vals l1
    have d2 := sc_vals l2
    have hr := hr x y w'
    rw [← d1, ← d2, Array.toArray_toList, Array.toArray_toList] at hr
    simp only [execOp, ho, v1, v2, Sem.run_bind] at hr ⊢
    rw [hr]
    rfl
  · exact vBin_ok hT ho h
theorem vBinN_ok (hT : TabOK P T) {op : BinOp} {t t' : TypeId} {x y : Operand} (ho : o.op = .binOp op t x y t') (h : vBinN std P T op t (ev S x) (ev S y) fun z => K (S.put o.dst z)) : opOK P o S K := by
  unfold vBinN at h
  split at h
  · rename_i n xs h1 h2
    intro E a w next Q hs hn
    obtain ⟨hd, G, gs, hi⟩ := hs
    have e1 := ev_rel hi x rfl
    have e2 := ev_rel hi y rfl
    rw [h1] at e1
    rw [h2] at e2
    have v2 : a.eval y = .slice none 0 0 := by
      generalize a.eval y = u at e2
      cases e2 with | of h => cases h; rfl
    obtain ⟨oa, len, cap, v1, hnil⟩ : ∃ oa len cap, a.eval x = .slice oa len cap ∧ (oa = none → xs = []) := by
      rcases slf_inv e1 with ⟨⟨oa, hv⟩, rfl⟩ | ⟨b, k, cap, cur, et, fr, hv, _⟩
      · exact ⟨_, _, _, hv, fun _ => rfl⟩
      · exact ⟨_, _, _, hv, fun h => by simp at h⟩
    split at h <;> try exact h.elim
    · rename_i i hi'
      split at h <;> try exact h.elim
      rename_i hel
      have hti := tiOf_ok (hT _ _ hi')
      obtain ⟨e, he⟩ := Option.isSome_iff_exists.1 hel
      have hu := elemT_inv (hti.el.trans he)
      have hrun : (execOp a.eval o).run P w = .ok (.value (.bool oa.isNone)) w := by
        have key : ∀ d, (Op.equalIn (d + 1) t (.slice oa len cap) (.slice none 0 0)).run P w = .ok oa.isNone w := fun d => by
          simp only [Op.equalIn, Sem.run_bind, run_underlying hu, Result.andThen_ok]
          cases oa <;> simp
        have key := key 9999
        have key : (Op.equal t (.slice oa len cap) (.slice none 0 0)).run P w = .ok oa.isNone w := key
        simp [execOp, ho, v1, v2, eqGuard, binOp, key]
      unfold Oper.wp
      rw [hrun]
      exact hn _ _ _ (h oa.isNone (fun hb => hnil (by simpa using hb))) ⟨by rw [put_defers]; exact hd, G, gs, hi.put (.of (.sc rfl)) o.dst⟩
    · rename_i i hi'
      split at h <;> try exact h.elim
      rename_i hel
      have hti := tiOf_ok (hT _ _ hi')
      obtain ⟨e, he⟩ := Option.isSome_iff_exists.1 hel
      have hu := elemT_inv (hti.el.trans he)
      have hrun : (execOp a.eval o).run P w = .ok (.value (.bool (!oa.isNone))) w := by
        have key : ∀ d, (Op.equalIn (d + 1) t (.slice oa len cap) (.slice none 0 0)).run P w = .ok oa.isNone w := fun d => by
          simp only [Op.equalIn, Sem.run_bind, run_underlying hu, Result.andThen_ok]
          cases oa <;> simp
        have key := key 9999
        have key : (Op.equal t (.slice oa len cap) (.slice none 0 0)).run P w = .ok oa.isNone w := key
        simp [execOp, ho, v1, v2, eqGuard, binOp, key]
      unfold Oper.wp
      rw [hrun]
      exact hn _ _ _ (h (!oa.isNone) (fun hb => hnil (by simpa using hb))) ⟨by rw [put_defers]; exact hd, G, gs, hi.put (.of (.sc rfl)) o.dst⟩
  · obtain ⟨z, h1, h2⟩ := vBinA_ok hT ho h
    exact opOK_of h1 h2
theorem vLen_ok {k : A → Prop} (hT : TabOK P T) {t : TypeId} {x : Operand} {ci : Call} (ho : o.op = .call ci) (h1 : ci.callee = .builtin .len) (h2 : ci.args.toList = [x]) (h3 : ci.argTypes.toList = [t]) (h : vLen std T t (ev S x) k) : ∃ z, VOK P o S z ∧ k z := by
  have ho' : o.op = .call { callee := .builtin .len, args := #[x], argTypes := #[t] } := by
    rw [ho]; congr; cases ci with | mk a b c => simp only at h1 h2 h3; congr <;> (apply Array.toList_inj.1; simpa using by assumption)
  unfold vLen at h
  split at h <;> try exact h.elim
  rename_i i hi
  have hti := tiOf_ok (hT _ _ hi)
  have ns : ∀ {z : A}, ev S x = z → (∀ s, z ≠ .sc (.string s)) → i.str = false → (isStrT P t = true ↔ ∃ s, ev S x = .sc (.string s)) := fun h1 h2 h3 => by
    rw [hti.str, h3, h1]; simp [h2]
  split at h <;> try exact h.elim
  · rename_i hx
    split at h <;> try exact h.elim
    rename_i hc
    simp only [Bool.and_eq_true, Bool.not_eq_true'] at hc
    exact ⟨_, VOK_len (n := 0) ho' rfl (.inl (by rw [hti.el]; exact hc.1)) (by rw [hx]; rfl) (ns hx (by simp) hc.2), h⟩
  · rename_i n xs hx
    split at h <;> try exact h.elim
    rename_i hc
    simp only [Bool.and_eq_true, Bool.not_eq_true'] at hc
    exact ⟨_, VOK_len (n := xs.length) ho' rfl (.inl (by rw [hti.el]; exact hc.1)) (by rw [hx]; rfl) (ns hx (by simp) hc.2), h⟩
  · rename_i r off len hx
    split at h <;> try exact h.elim
    rename_i hc
    simp only [Bool.and_eq_true, Bool.not_eq_true'] at hc
    exact ⟨_, VOK_len (n := len) ho' rfl (.inl (by rw [hti.el]; exact hc.1)) (by rw [hx]; rfl) (ns hx (by simp) hc.2), h⟩
  · rename_i s hx
    split at h <;> try exact h.elim
    rename_i hc
    exact ⟨_, VOK_len (n := (bs s).length) ho' rfl (.inr (by rw [hti.str]; exact hc)) (by rw [hx]; rfl) (by rw [hti.str]; simp [hc, hx]), h⟩
theorem vLoad_ok {k : A → Prop} (hT : TabOK P T) {t : TypeId} {x : Operand} (ho : o.op = .load t x) (h : vLoad T t S (ev S x) k) : ∃ z, VOK P o S z ∧ k z := by
  unfold vLoad at h
  split at h <;> try exact h.elim
  rename_i i hi
  have hti := tiOf_ok (hT _ _ hi)
  split at h <;> try exact h.elim
  · rename_i xs hx
    split at h
    · rename_i hag
      split at h <;> try exact h.elim
      rename_i hle
      exact ⟨_, VOK_load_rpAgg ho rfl hx (by rw [hti.ag, hag]) hti.sz hle, h⟩
    · rename_i hag
      split at h <;> try exact h.elim
      rename_i z hz
      exact ⟨_, VOK_load_rp ho rfl hx (by rw [hti.ag]; simpa using hag) hz, h⟩
  · rename_i r j q hx
    split at h <;> try exact h.elim
    rename_i row hr
    have cell : ∀ y, row.xs[j]? = some y → vCell i row.n y q k → ∃ z, VOK P o S z ∧ k z := fun y hy h => by
      unfold vCell at h
      split at h
      · rename_i hag
        split at h <;> try exact h.elim
        rename_i hq
        split at h <;> try exact h.elim
        rename_i hno
        exact ⟨_, VOK_load_ptAgg ho rfl hx hr hy (by rw [hti.ag, hag]) hti.sz hq hno, h⟩
      · rename_i hag
        split at h <;> try exact h.elim
        rename_i z hz
        split at h <;> try exact h.elim
        rename_i hno
        exact ⟨_, VOK_load_pt ho rfl hx hr hy (by rw [hti.ag]; simpa using hag) hz hno, h⟩
    split at h
    · split at h <;> try exact h.elim
      rename_i y hy
      exact cell y hy h
    · obtain ⟨y, hy, h⟩ := h
      exact cell y hy h
theorem vFieldAddr_ok {k : A → Prop} (hT : TabOK P T) {t : TypeId} {x : Operand} {i : Nat} (ho : o.op = .fieldAddr t x i) (h : vFieldAddr T t i (ev S x) k) : ∃ z, VOK P o S z ∧ k z := by
  unfold vFieldAddr at h
  split at h <;> try exact h.elim
  rename_i ti hi
  have hti := tiOf_ok (hT _ _ hi)
  split at h <;> try exact h.elim
  rename_i off s g hf
  split at h <;> try exact h.elim
  rename_i hs
  split at h <;> try exact h.elim
  · rename_i r j q hx
    exact ⟨_, VOK_fieldAddr_pt ho rfl hx (hti.fs _ _ hf) hs, h⟩
  · rename_i xs hx
    exact ⟨_, VOK_fieldAddr_rp ho rfl hx (hti.fs _ _ hf) hs, h⟩
theorem vField_ok {k : A → Prop} (hT : TabOK P T) {t : TypeId} {x : Operand} {i : Nat} (ho : o.op = .field t x i) (h : vField T t i (ev S x) k) : ∃ z, VOK P o S z ∧ k z := by
  unfold vField at h
  split at h <;> try exact h.elim
  rename_i ti xs hi hx
  have hti := tiOf_ok (hT _ _ hi)
  split at h <;> try exact h.elim
  rename_i off s g hf
  split at h <;> try exact h.elim
  rename_i hl
  split at h
  · rename_i hg
    exact ⟨_, VOK_field ho rfl hx (hti.fs _ _ hf) hl (by simp [hg]), by rw [if_pos hg]; exact h⟩
  · rename_i hg
    split at h <;> try exact h.elim
    rename_i hs
    exact ⟨_, VOK_field ho rfl hx (hti.fs _ _ hf) hl (fun _ => hs), by rw [if_neg hg]; exact h⟩
theorem vIndexAddr_ok {k : A → Prop} (hT : TabOK P T) {t : TypeId} {x y : Operand} (ho : o.op = .indexAddr t x y) (h : vIndexAddr std T t S (ev S x) (ev S y) k) : ∃ z, VOK P o S z ∧ k z := by
  unfold vIndexAddr at h
  split at h <;> try exact h.elim
  rename_i e ti k i hs hy
  obtain ⟨he, hti⟩ := szEl_ok hT hs
  split at h <;> try exact h.elim
  · rename_i r off len hx
    split at h <;> try exact h.elim
    rename_i row hr
    split at h <;> try exact h.elim
    rename_i hn
    exact ⟨_, VOK_indexAddr_vw ho rfl rfl hx hy hr he (by rw [hti.sz, hn]) h.1.h.1 h.1.h.2, h.2⟩
  · rename_i n xs hx
    split at h <;> try exact h.elim
    rename_i hn
    obtain ⟨h1, z, hz, h⟩ := h
    exact ⟨_, VOK_indexAddr_sl ho rfl rfl hx hy he (by rw [hti.sz, hn]) h1.h hz, h⟩
theorem vIndex_ok {k : A → Prop} (hT : TabOK P T) {t : TypeId} {x y : Operand} (ho : o.op = .index t x y) (h : vIndex std T t (ev S x) (ev S y) k) : ∃ z, VOK P o S z ∧ k z := by
  unfold vIndex at h
  split at h <;> try exact h.elim
  rename_i ti s k i hi hx hy
  split at h <;> try exact h.elim
  rename_i hs
  obtain ⟨h1, c, hc, h⟩ := h
  exact ⟨_, VOK_index ho rfl rfl hx hy (by rw [(tiOf_ok (hT _ _ hi)).str]; exact hs) h1.h hc, h⟩
theorem vExtract_ok {k : A → Prop} {x : Operand} {i : Nat} (ho : o.op = .extract x i) (h : vExtract (ev S x) i k) : ∃ z, VOK P o S z ∧ k z := by
  unfold vExtract at h
  split at h <;> try exact h.elim
  rename_i xs hx
  split at h <;> try exact h.elim
  rename_i z hz
  exact ⟨_, VOK_extract ho rfl hx hz, h⟩
theorem vNilCheck_ok {k : A → Prop} {x : Operand} (ho : o.op = .nilCheck x) (h : vNilCheck (ev S x) k) : ∃ z, VOK P o S z ∧ k z := by
  unfold vNilCheck at h
  split at h <;> try exact h.elim
  · rename_i hx; exact ⟨_, VOK_nilCheck_pt ho rfl hx, h⟩
  · rename_i hx; exact ⟨_, VOK_nilCheck_rp ho rfl hx, h⟩
theorem vBox_ok {t : TypeId} {x : Operand} (ho : o.op = .box t x) (h : vBox S (ev S x) fun z S' => K (S'.put o.dst z)) : opOK P o S K := by
  unfold vBox at h
  split at h <;> try exact h.elim
  rename_i hc
  exact opOK_box ho rfl hc h
theorem vAlloc_ok (hT : TabOK P T) {t : TypeId} (ho : o.op = .alloc t) (h : vAlloc T t S fun z S' => K (S'.put o.dst z)) : opOK P o S K := by
  unfold vAlloc at h
  split at h <;> try exact h.elim
  rename_i i hi
  split at h <;> try exact h.elim
  rename_i z hz
  obtain ⟨h1, h2⟩ := (tiOf_ok (hT _ _ hi)).z _ hz
  exact opOK_alloc ho h1 h2 h
theorem fillF_ok {t : TypeId} {ti : TI} (hti : TIok P t ti) : ∀ (parts : List (Nat × A)) (cells res : List A), fillF ti.fs cells parts = some res → fillA P t cells parts = some res
  | [], cells, res, h => h
  | (i, x) :: rest, cells, res, h => by
    unfold fillF at h
    split at h <;> try simp at h
    rename_i off s g hf
    obtain ⟨h1, h2, h⟩ := h
    unfold fillA
    rw [hti.fs _ _ hf]
    dsimp only
    rw [if_neg (by omega)]
    exact fillF_ok hti rest _ _ (by rw [List.append_assoc]; exact h)
theorem vBuild_ok {k : A → Prop} (hT : TabOK P T) {t : TypeId} {parts : Array (Nat × Operand)} (ho : o.op = .build t parts) (h : vBuild T t (parts.toList.map fun p => (p.1, ev S p.2)) k) : ∃ z, VOK P o S z ∧ k z := by
  unfold vBuild at h
  split at h <;> try exact h.elim
  rename_i i hi
  have hti := tiOf_ok (hT _ _ hi)
  split at h <;> try exact h.elim
  rename_i z hz
  split at h <;> try exact h.elim
  rename_i hne
  split at h <;> try exact h.elim
  rename_i hok
  split at h <;> try exact h.elim
  rename_i res hres
  refine ⟨_, VOK_build ho (fun _ _ => rfl) (hti.z _ hz).1 (hti.z _ hz).2 (hti.pl (by simpa using hne)) (fun p hp => ?_) (fillF_ok hti _ _ _ hres), h⟩
  have := List.all_eq_true.1 hok (p.1, ev S p.2) (List.mem_map.2 ⟨p, hp, rfl⟩)
  exact this
theorem vConv_ok {k : A → Prop} (hT : TabOK P T) {src dst : TypeId} {x : Operand} (ho : o.op = .convert src dst x) (h : vConv std T src dst S (ev S x) k) : ∃ z, VOK P o S z ∧ k z := by
  unfold vConv at h
  split at h <;> try exact h.elim
  rename_i i j hi hj
  have hti := tiOf_ok (hT _ _ hi)
  have htj := tiOf_ok (hT _ _ hj)
  split at h <;> try exact h.elim
  · rename_i kk n hx
    split at h <;> try exact h.elim
    rename_i k2 hk
    exact ⟨_, VOK_convI ho hti.ag (htj.kind.trans hk) hx, h⟩
  · rename_i s hx
    split at h <;> try exact h.elim
    rename_i hc
    simp only [Bool.and_eq_true] at hc
    exact ⟨_, VOK_convS ho (hti.str.trans hc.1) (htj.str.trans hc.2) hx, h⟩
  · rename_i r off len hx
    split at h <;> try exact h.elim
    rename_i row e0 e hr hs
    obtain ⟨he, hte⟩ := szEl_ok hT hs
    split at h <;> try exact h.elim
    rename_i hk
    split at h <;> try exact h.elim
    rename_i hc
    obtain ⟨ns, ⟨h1, h2⟩, h⟩ := h
    exact ⟨_, VOK_bytesStr_vw ho he (hte.kind.trans hk) (htj.str.trans hc.2) hx hr hc.1 h1 h2, h⟩
  · rename_i n xs hx
    split at h <;> try exact h.elim
    rename_i e0 e hs
    obtain ⟨he, hte⟩ := szEl_ok hT hs
    split at h <;> try exact h.elim
    rename_i hk
    split at h <;> try exact h.elim
    rename_i hc
    obtain ⟨ns, h2, h⟩ := h
    exact ⟨_, VOK_bytesStr_sl ho he (hte.kind.trans hk) (htj.str.trans hc.2) hx hc.1 h2, h⟩
end
end Go.Fw

/- The reckoning is sound: memory, calls, codes. Plain theorems, no condition. -/
set_option linter.unusedVariables false
set_option linter.unusedSimpArgs false
namespace Go.Fw
section
variable {P : Program} {T : Nat → Option TI} {S : State} {o : Oper} {K : State → Prop}
theorem stashL_nil (S : State) : stashL S [] = (True, [], S, []) := by rw [stashL]
theorem stashL_cons (S : State) (x : A) (xs : List A) : stashL S (x :: xs) = ((stash1 S x).1 ∧ (stashL (stash1 S x).2.2.1 (xs.map (kills (stash1 S x).2.2.2))).1, (stash1 S x).2.1 :: (stashL (stash1 S x).2.2.1 (xs.map (kills (stash1 S x).2.2.2))).2.1,
    (stashL (stash1 S x).2.2.1 (xs.map (kills (stash1 S x).2.2.2))).2.2.1, (stash1 S x).2.2.2 ++ (stashL (stash1 S x).2.2.1 (xs.map (kills (stash1 S x).2.2.2))).2.2.2) := by rw [stashL]
theorem vStash_ok : ∀ (n : Nat) (xs : List A) (S : State) (k : List A → State → List Nat → Prop), vStash std n S xs k → (stashL S xs).1 ∧ k (stashL S xs).2.1 (stashL S xs).2.2.1 (stashL S xs).2.2.2
  | _, [], S, k, h => by rw [stashL_nil]; exact ⟨trivial, by simpa [vStash] using h⟩
  | 0, _ :: _, S, k, h => by simp [vStash] at h
  | n + 1, x :: xs, S, k, h => by
    rw [stashL_cons]
    unfold vStash at h
    split at h
    · rename_i r off len
      split at h <;> try exact h.elim
      rename_i row hr
      split at h <;> try exact h.elim
      rename_i hlk
      obtain ⟨h1, h2⟩ := h
      have e : stash1 S (.vw r off len) = (off = 0 ∧ len ≤ row.xs.length ∧ row.lk = false, .sl true row.n (row.xs.take len), S.turn r none, [r]) := by simp [stash1, hr]
      rw [e]
      have := vStash_ok n _ _ _ h2
      exact ⟨⟨⟨h1.h.1, h1.h.2, by simpa using hlk⟩, this.1⟩, this.2⟩
    · rename_i hnv
      split at h <;> try exact h.elim
      rename_i hd
      have e : stash1 S x = (isData x = true, x, S, []) := by
        cases x <;> first | rfl | (rename_i r off len; exact (hnv r off len rfl).elim)
      rw [e]
      have hk : kills [] = id := by funext y; rfl
      simp only [hk, List.map_id]
      have := vStash_ok n _ _ _ h
      exact ⟨⟨hd, this.1⟩, this.2⟩
theorem vStore_ok (hT : TabOK P T) {t : TypeId} {x y : Operand} (ho : o.op = .store t x y) (h : vStore std T t S (ev S x) (ev S y) fun S' => K (S'.put o.dst .un)) : opOK P o S K := by
  unfold vStore at h
  split at h <;> try exact h.elim
  rename_i i r j q hi hx
  have hti := tiOf_ok (hT _ _ hi)
  split at h <;> try exact h.elim
  rename_i row hr
  split at h <;> try exact h.elim
  rename_i hlen
  split at h <;> try exact h.elim
  rename_i hpos
  split at h <;> try exact h.elim
  rename_i hq
  split at h <;> try exact h.elim
  rename_i hok
  split at h
  · rename_i hlk
    split at h <;> try exact h.elim
    rename_i z hz
    exact opOK_store ho rfl rfl hx hr hlk hz hti.sz hlen hpos hq hok h
  · rename_i hlk
    obtain ⟨hc, h⟩ := vStash_ok _ _ _ _ h
    have hys : ∀ z, row.xs[j]? = some z → r ∉ (stashL S (ev S y).cells).2.2.2 → K (((stashL S (ev S y).cells).2.2.1.setRow r { row with xs := row.xs.set j (newElem z q (stashL S (ev S y).cells).2.1) }).put o.dst .un) → opOK P o S K := fun z hz hne h =>
      opOK_storeD ho rfl rfl hx hr hlk hz hti.sz hlen hpos hq hok hc hne h
    split at h <;> try exact h.elim
    rename_i hne
    have hne' : r ∉ (stashL S (ev S y).cells).2.2.2 := fun hm => hne (List.contains_iff_mem.2 hm)
    have hall : ∀ c ∈ (ev S y).cells, okCell c = true := List.all_eq_true.1 hok
    have hcl := stashL_cells _ (ev S y).cells S rfl hc (fun c hc => okCell_not (hall c hc))
    split at h
    · rename_i hfull
      obtain ⟨h1, h2⟩ := h
      obtain ⟨hj, hag⟩ := h1.h
      have hz : row.xs[j]? = some (row.xs[j]) := List.getElem?_eq_getElem hj
      refine hys _ hz hne' ?_
      have ha := hag _ (List.getElem_mem hj)
      have : newElem row.xs[j] q (stashL S (ev S y).cells).2.1 = .agg (stashL S (ev S y).cells).2.1 := by
        generalize row.xs[j] = z at ha
        cases z <;> try (simp [isAggN] at ha; done)
        rename_i xs
        simp only [isAggN, beq_iff_eq] at ha
        have hl : (stashL S (ev S y).cells).2.1.length = xs.length := by rw [hcl.1, hlen, hfull.2.1, ha]
        simp [newElem, hfull.1, hl]
      rw [this]; exact h2
    · split at h
      · rename_i hn1
        obtain ⟨h1, h2⟩ := h
        obtain ⟨hj, hag⟩ := h1.h
        have hz : row.xs[j]? = some (row.xs[j]) := List.getElem?_eq_getElem hj
        refine hys _ hz hne' ?_
        have ha := hag _ (List.getElem_mem hj)
        have : newElem row.xs[j] q (stashL S (ev S y).cells).2.1 = (stashL S (ev S y).cells).2.1.headD .un := by
          generalize row.xs[j] = z at ha
          cases z <;> first | rfl | (simp [vStore.isAggA] at ha)
        rw [this]; exact h2
      · obtain ⟨z, hz, h⟩ := h
        exact hys z hz hne' h
theorem vBuildSlice_ok (hT : TabOK P T) {t : TypeId} {len : Nat} {parts : Array (Nat × Operand)} (ho : o.op = .buildSlice t len parts)
    (h : vBuildSlice std T t len (parts.toList.map fun p => (p.1, ev S p.2)) S fun z S' => K (S'.put o.dst z)) : opOK P o S K := by
  unfold vBuildSlice at h
  split at h <;> try exact h.elim
  rename_i e ti hs
  obtain ⟨he, hti⟩ := szEl_ok hT hs
  split at h <;> try exact h.elim
  rename_i hc
  obtain ⟨h1, h2, h3, h4, h5, h6, h7⟩ := hc
  obtain ⟨z, hz⟩ := Option.isSome_iff_exists.1 h1
  have e1 : (parts.toList.map fun p => (p.1, ev S p.2)).map (·.2) = parts.toList.map fun p => ev S p.2 := by simp
  have e2 : (parts.toList.map fun p => (p.1, ev S p.2)).map (·.1) = parts.toList.map (·.1) := by simp
  rw [e1] at h h7
  rw [e2] at h5
  rw [List.length_map] at h4
  obtain ⟨hst, h⟩ := vStash_ok _ _ _ _ h
  refine opOK_buildSlice ho (fun _ _ => rfl) (by rw [h5, h4]) h4 he hti.sz (hti.z _ hz).1 h2 h3 (fun p hp => ?_) h7 hst h
  have := List.all_eq_true.1 h6 (p.1, ev S p.2) (List.mem_map.2 ⟨p, hp, rfl⟩)
  simpa using this
theorem vMake_ok (hT : TabOK P T) {t : TypeId} {x y : Operand} (ho : o.op = .makeSlice t x y) (h : vMake std T t (ev S x) (ev S y) S fun z S' => K (S'.put o.dst z)) : opOK P o S K := by
  unfold vMake at h
  split at h <;> try exact h.elim
  rename_i e ti k a k' b hs hx hy
  obtain ⟨he, hti⟩ := szEl_ok hT hs
  split at h <;> try exact h.elim
  rename_i z hz
  split at h <;> try exact h.elim
  rename_i hw
  obtain ⟨h0, h⟩ := h
  obtain ⟨rfl, h1, h2, h3⟩ := h0.h
  have ea : (a.toNat : Int) = a := Int.toNat_of_nonneg h1
  exact opOK_makeSlice (n := a.toNat) ho rfl rfl (by rw [hx, ea]) (by rw [hy, ea]) he hti.sz (hti.z _ hz).1 (hti.z _ hz).2 hw.1 hw.2 (by rw [hti.bytes]; exact h2) h3 h
theorem vLo_ok {x : Option A} {d : Nat} {k : (Unit → Prop) → Nat → Prop} (h : vLo std x d k) : ∃ c l, k c l ∧ (c () → bnd x d = some (l : Int)) := by
  unfold vLo at h
  split at h
  · exact ⟨_, _, h, fun _ => rfl⟩
  · rename_i kk n
    exact ⟨_, _, h, fun h0 => by show some n = _; rw [show (std.nat n : Int) = n from Int.toNat_of_nonneg h0]⟩
  · exact h.elim
theorem vSlice_ok {k : A → Prop} (hT : TabOK P T) {t : TypeId} {x : Operand} {lo hi : Option Operand} (ho : o.op = .slice t x lo hi none) (h : vSlice std T t S (ev S x) (lo.map (ev S)) (hi.map (ev S)) k) : ∃ z, VOK P o S z ∧ k z := by
  have ok : ∀ x : Option Operand, okOpt x = true := fun x => by cases x <;> rfl
  unfold vSlice at h
  split at h <;> try exact h.elim
  rename_i ti hi'
  have hti := tiOf_ok (hT _ _ hi')
  split at h <;> try exact h.elim
  · rename_i s hx
    split at h <;> try exact h.elim
    rename_i hs
    obtain ⟨c1, l, h, g1⟩ := vLo_ok h
    obtain ⟨c2, u, h, g2⟩ := vLo_ok h
    obtain ⟨h0, h⟩ := h
    obtain ⟨h1, h2, h3, h4⟩ := h0.h
    exact ⟨_, VOK_slice_str ho rfl (ok _) (ok _) (by rw [hti.str]; exact hs) hx (g1 h1) (g2 h2) h3 h4, h⟩
  · rename_i r off len hx
    split at h <;> try exact h.elim
    rename_i row e ei hr hs
    obtain ⟨he, hei⟩ := szEl_ok hT hs
    split at h <;> try exact h.elim
    rename_i hn
    obtain ⟨c1, l, h, g1⟩ := vLo_ok h
    obtain ⟨c2, u, h, g2⟩ := vLo_ok h
    obtain ⟨h0, h⟩ := h
    obtain ⟨h1, h2, h3, h4⟩ := h0.h
    exact ⟨_, VOK_slice_vw ho rfl (ok _) (ok _) hx hr he (by rw [hei.sz, hn]) (g1 h1) (g2 h2) h3 h4, h⟩
  · rename_i n xs hx
    split at h <;> try exact h.elim
    rename_i e ei hs
    obtain ⟨he, hei⟩ := szEl_ok hT hs
    split at h <;> try exact h.elim
    rename_i hn
    obtain ⟨c1, l, h, g1⟩ := vLo_ok h
    obtain ⟨c2, u, h, g2⟩ := vLo_ok h
    obtain ⟨h0, h⟩ := h
    obtain ⟨h1, h2, h3, h4⟩ := h0.h
    exact ⟨_, VOK_slice_sl ho rfl (ok _) (ok _) hx he (by rw [hei.sz, hn]) (g1 h1) (g2 h2) h3 h4, h⟩
theorem VOK_makeFunc {fn : FuncId} {first caps : Array Operand} (ho : o.op = .makeFunc (.func fn) first caps) (hf : first.toList = []) (hg : fn < 1000000) : VOK P o S (.clo fn (caps.toList.map (ev S))) := by
  refine fun E G gs a w hi => ⟨mkFn fn (caps.toList.map a.eval), fun w' hw' => ?_, .clo (evs_rel hi caps.toList)⟩
  have : first = #[] := by apply Array.toList_inj.1; simpa using hf
  subst this
  have e : (caps.toList.map a.eval).toArray = caps.map a.eval := by apply Array.toList_inj.1; simp
  unfold mkFn
  rw [if_pos hg, e]
  simp [execOp, ho, Instr.makeFunc]
theorem VOK_makeBound {fn : FuncId} {first caps : Array Operand} (ho : o.op = .makeFunc (.func fn) first caps) (hf : caps.toList = []) (hg : fn < 1000000) : VOK P o S (.clo (1000000 + fn) (first.toList.map (ev S))) := by
  refine fun E G gs a w hi => ⟨mkFn (1000000 + fn) (first.toList.map a.eval), fun w' hw' => ?_, .clo (evs_rel hi first.toList)⟩
  have : caps = #[] := by apply Array.toList_inj.1; simpa using hf
  subst this
  have e : (first.toList.map a.eval).toArray = first.map a.eval := by apply Array.toList_inj.1; simp
  unfold mkFn
  rw [if_neg (by omega), e, Nat.add_mod_left, Nat.mod_eq_of_lt hg]
  simp [execOp, ho, Instr.makeFunc]
theorem vMakeFn_ok {k : A → Prop} {f : Fn} {first caps : Array Operand} (ho : o.op = .makeFunc f first caps) (h : vMakeFn f (first.toList.map (ev S)) (caps.toList.map (ev S)) k) : ∃ z, VOK P o S z ∧ k z := by
  unfold vMakeFn at h
  split at h <;> try exact h.elim
  · rename_i g hf
    split at h <;> try exact h.elim
    rename_i hg
    exact ⟨_, VOK_makeFunc ho (by simpa using hf) hg, h⟩
  · split at h <;> try exact h.elim
    rename_i hc
    split at h <;> try exact h.elim
    rename_i hg
    exact ⟨_, VOK_makeBound ho (by simpa using hc) hg, h⟩
theorem vLoadS_ok (hT : TabOK P T) {t : TypeId} {x : Operand} (ho : o.op = .load t x) (h : vLoadS std T t S (ev S x) fun z S' => K (S'.put o.dst z)) : opOK P o S K := by
  unfold vLoadS at h
  split at h <;> try exact h.elim
  rename_i i hi
  have hti := tiOf_ok (hT _ _ hi)
  split at h <;> try exact h.elim
  · rename_i xs hx
    split at h
    · rename_i hag
      split at h <;> try exact h.elim
      rename_i hle
      exact opOK_of (VOK_load_rpAgg ho rfl hx (by rw [hti.ag, hag]) hti.sz hle) h
    · rename_i hag
      split at h <;> try exact h.elim
      rename_i z hz
      exact opOK_of (VOK_load_rp ho rfl hx (by rw [hti.ag]; simpa using hag) hz) h
  · rename_i r j q hx
    split at h <;> try exact h.elim
    rename_i row hr
    split at h
    · split at h <;> try exact h.elim
      rename_i y hy
      unfold vCell at h
      split at h
      · rename_i hag
        split at h <;> try exact h.elim
        rename_i hq
        split at h <;> try exact h.elim
        rename_i hno
        exact opOK_of (VOK_load_ptAgg ho rfl hx hr hy (by rw [hti.ag, hag]) hti.sz hq hno) h
      · rename_i hag
        split at h <;> try exact h.elim
        rename_i z hz
        split at h <;> try exact h.elim
        rename_i hno
        exact opOK_of (VOK_load_pt ho rfl hx hr hy (by rw [hti.ag]; simpa using hag) hz hno) h
    · rename_i hlk
      obtain ⟨y, hy, h⟩ := h
      unfold vCellS at h
      split at h
      · rename_i hag
        split at h <;> try exact h.elim
        rename_i hq
        split at h <;> try exact h.elim
        rename_i hno
        exact opOK_of (VOK_load_ptAgg ho rfl hx hr hy (by rw [hti.ag, hag]) hti.sz hq hno) h
      · rename_i hag
        split at h <;> try exact h.elim
        · rename_i n ys hz
          exact opOK_take ho hx hr hlk hy (by rw [hti.ag]; simpa using hag) hz h
        · rename_i z hnz hz
          split at h <;> try exact h.elim
          rename_i hno
          exact opOK_of (VOK_load_pt ho rfl hx hr hy (by rw [hti.ag]; simpa using hag) hz hno) h
theorem of_V (h : ∃ z, VOK P o S z ∧ K (S.put o.dst z)) : opOK P o S K := let ⟨_, h1, h2⟩ := h; opOK_of h1 h2
theorem constA_width (z : Value) : (constA z).width = z.cells.size := by
  unfold constA
  split
  · simp [A.width, A.cells, Value.cells]
  · rename_i hn
    have : z.cells.size = 1 := by cases z <;> first | rfl | (rename_i cs; exact (hn cs rfl).elim)
    rw [this]
    unfold cellA
    split <;> rfl
theorem zOK_ok {t : TypeId} {ti : TI} (hti : TIok P t ti) (h : zOK ti = true) : ∃ z, zeroT P t = some z ∧ z.cells.size = ti.sz ∧ 0 < ti.sz := by
  unfold zOK at h
  split at h <;> try simp at h
  rename_i z hz
  exact ⟨z, (hti.z _ hz).1, by rw [← constA_width]; exact h.1, h.2⟩
theorem vAppend_ok (hT : TabOK P T) {t : TypeId} {x y : Operand} {mv : Bool} (ho : o.op = .call { callee := .builtin .append, args := #[x, y], argTypes := #[t, t] })
    (h : vAppend std T t mv S (ev S x) (ev S y) fun z S' => K (S'.put o.dst z)) : opOK P o S K := by
  unfold vAppend at h
  split at h <;> try exact h.elim
  rename_i e ti hs
  obtain ⟨he, hti⟩ := szEl_ok hT hs
  split at h <;> try exact h.elim
  rename_i hzok
  obtain ⟨z, hz, hzs, hsp⟩ := zOK_ok hti hzok
  have hseg : ∀ {off len : Nat} {xs : List A}, std.seg off (std.plus off len) xs = (xs.drop off).take len := by
    intro off len xs
    show (xs.take (off + len)).drop off = _
    rw [List.drop_take, Nat.add_sub_cancel_left]
  have hlen : ∀ {off len : Nat} {xs : List A}, off + len ≤ xs.length → ((xs.drop off).take len).length = len := by
    intro off len xs h; simp; omega
  split at h <;> try exact h.elim
  · rename_i r off len hx
    split at h <;> try exact h.elim
    rename_i row hr
    split at h <;> try exact h.elim
    rename_i hc
    obtain ⟨rfl, hn, hlk⟩ := hc
    rw [hn] at hzs hsp
    have hsz : szT P e = some row.n := by rw [hti.sz, hn]
    split at h <;> try exact h.elim
    · rename_i r2 off2 len2 hy
      split at h <;> try exact h.elim
      rename_i row2 hr2
      split at h <;> try exact h.elim
      rename_i hc2
      obtain ⟨rfl, hlk2, hne, hn2⟩ := hc2
      obtain ⟨h0, h⟩ := h
      obtain ⟨h1, h2, h3, h4⟩ := h0.h
      exact opOK_append_move ho rfl rfl hx hr hlk hy hr2 h1 hlk2 hne hn2 h2 he hsz hz hzs hsp (by rw [hti.bytes]; exact h3) h4 h
    · rename_i hy
      obtain ⟨h0, h⟩ := h
      refine opOK_append (xs2 := []) ho rfl rfl hx hr hlk (by rw [hy]; rfl) (.inl hy) (by simp) (by rw [hy]; simp) (by simp [flat]) he hsz hz hzs hsp (by rw [hti.bytes]; exact h0.h.1) h0.h.2 ?_
      simp only [List.append_nil, List.length_nil, Nat.add_zero]
      exact h
    · rename_i n xs2 hy
      split at h <;> try exact h.elim
      rename_i hn2
      obtain ⟨h0, h⟩ := h
      obtain ⟨h1, h2, h3, h4⟩ := h0.h
      exact opOK_append ho rfl rfl hx hr hlk (by rw [hy]; rfl) (.inr (by rw [hy, ← hn2]; rfl)) h1 (by rw [hy]; simp) h2 he hsz hz hzs hsp (by rw [hti.bytes]; exact h3) h4 h
    · rename_i r2 off2 len2 hmv hy
      split at h <;> try exact h.elim
      rename_i row2 hr2
      split at h <;> try exact h.elim
      rename_i hc2
      obtain ⟨hlk2, hn2⟩ := hc2
      obtain ⟨h0, h⟩ := h
      obtain ⟨h1, h2, h3, h4, h5⟩ := h0.h
      refine opOK_append (xs2 := (row2.xs.drop off2).take len2) ho rfl rfl hx hr hlk (by rw [hy]; simp [elemsA, hr2]) (.inr (by rw [hy]; simp [nA, hr2, hn2])) h2
        (fun r3 o3 l3 row3 h3 h4 => by rw [hy] at h3; cases h3; rw [hr2] at h4; cases h4; exact hlk2) h3 he hsz hz hzs hsp (by rw [hti.bytes, hlen h1]; exact h4) (by rw [hlen h1]; exact h5) ?_
      rw [hseg] at h
      rw [hlen h1]; exact h
  · rename_i hx
    split at h <;> try exact h.elim
    · rename_i hy
      refine opOK_value (P := P) .nil h fun E G gs a w hi => ?_
      have e1 := ev_rel hi x rfl
      rw [hx] at e1
      have v1 : a.eval x = .slice none 0 0 := by
        generalize a.eval x = v at e1
        cases e1 with | of h => cases h; rfl
      have e2 := ev_rel hi y rfl
      rw [hy] at e2
      obtain ⟨news, hsrc, _⟩ := source_ok hi (s := ti.sz) e2 rfl (.inl rfl) (by simp) (by simp) (by simp [flat])
      refine ⟨_, exec_append ho ?_, .of .nil⟩
      rw [v1]
      exact run_append_nil0 he hti.sz hsrc
    · rename_i n xs2 hy
      split at h <;> try exact h.elim
      rename_i hn2
      obtain ⟨h0, h⟩ := h
      obtain ⟨h1, h2, h3, h4⟩ := h0.h
      exact opOK_append_nil ho rfl rfl hx (by rw [hy]; rfl) (.inr (by rw [hy, ← hn2]; rfl)) h1 (by rw [hy]; simp) h2 he hti.sz hz hzs hsp (by rw [hti.bytes]; exact h3) h4 h
    · rename_i r2 off2 len2 hy
      split at h <;> try exact h.elim
      rename_i row2 hr2
      split at h <;> try exact h.elim
      rename_i hc2
      obtain ⟨hlk2, hn2⟩ := hc2
      obtain ⟨h0, h⟩ := h
      obtain ⟨h1, h2, h3, h4, h5⟩ := h0.h
      refine opOK_append_nil (xs2 := (row2.xs.drop off2).take len2) ho rfl rfl hx (by rw [hy]; simp [elemsA, hr2]) (.inr (by rw [hy]; simp [nA, hr2, hn2])) h2
        (fun r3 o3 l3 row3 h3 h4 => by rw [hy] at h3; cases h3; rw [hr2] at h4; cases h4; exact hlk2) h3 he hti.sz hz hzs hsp (by rw [hti.bytes, hlen h1]; exact h4) (by rw [hlen h1]; exact h5) ?_
      rw [hseg] at h
      rw [hlen h1]; exact h
theorem call_eq {ci : Call} {c : Callee} {as : List Operand} {ts : List TypeId} (h1 : ci.callee = c) (h2 : ci.args.toList = as) (h3 : ci.argTypes.toList = ts) : ci = ⟨c, as.toArray, ts.toArray⟩ := by
  cases ci with | mk a b d => subst h1; subst h2; subst h3; rfl
theorem vCall_ok (hT : TabOK P T) {mv : Option Nat} {ci : Call} (ho : o.op = .call ci) (h : vCall std P T mv S ci.callee ci.args.toList ci.argTypes.toList fun z S' => K (S'.put o.dst z)) : opOK P o S K := by
  unfold vCall at h
  split at h <;> try exact h.elim
  · rename_i g hf
    split at h <;> try exact h.elim
    rename_i hg
    have he : ev S (.func g) = .clo g [] := if_pos hg
    refine opOK_call ho hf he ?_
    unfold cloN cloA
    rw [if_pos hg, if_pos hg, List.append_nil]
    exact h.h
  · rename_i f hnf hf
    split at h <;> try exact h.elim
    rename_i g caps he
    exact opOK_call ho hf he h.h
  · rename_i hf
    split at h <;> try exact h.elim
    rename_i x t h1 h2
    unfold vClear at h
    split at h <;> try exact h.elim
    rename_i e ti r off len hs hx
    obtain ⟨he, hti⟩ := szEl_ok hT hs
    split at h <;> try exact h.elim
    rename_i row z hr hz
    split at h <;> try exact h.elim
    rename_i hc
    obtain ⟨hlk, hn, hsz, hza⟩ := hc
    obtain ⟨h0, h⟩ := h
    obtain ⟨hl, hna⟩ := h0.h
    rw [call_eq hf h1 h2] at ho
    obtain ⟨hz1, hz2⟩ := hti.z _ hz
    exact opOK_clear ho hx hr hlk hn hl hna he hz1 hz2 hza h
  · rename_i hf
    split at h <;> try exact h.elim
    rename_i x t h1 h2
    exact of_V (vLen_ok hT ho hf h1 h2 h)
  · rename_i hf
    split at h <;> try exact h.elim
    rename_i x y t t' h1 h2
    split at h <;> try exact h.elim
    rename_i ht
    subst ht
    rw [call_eq hf h1 h2] at ho
    exact vAppend_ok hT ho h
theorem vOp_ok (hT : TabOK P T) {mv : Option Nat} (h : vOp std P T mv o S K) : opOK P o S K := by
  unfold vOp at h
  split at h
  · rename_i x ho; exact opOK_of (VOK_move (.inl ho) rfl) h
  · rename_i x ho; exact opOK_of (VOK_move (.inr ho) rfl) h
  · rename_i ho; exact of_V (vPick_ok ho h)
  · rename_i ho; exact of_V (vUn_ok ho h)
  · rename_i ho; exact vBinN_ok hT ho h
  · rename_i ho; exact vLoadS_ok hT ho h
  · rename_i ho; exact of_V (vFieldAddr_ok hT ho h)
  · rename_i ho; exact of_V (vField_ok hT ho h)
  · rename_i ho; exact of_V (vIndexAddr_ok hT ho h)
  · rename_i ho; exact of_V (vIndex_ok hT ho h)
  · rename_i ho; exact of_V (vExtract_ok ho h)
  · rename_i ho; exact of_V (vNilCheck_ok ho h)
  · rename_i ho; exact vBox_ok ho h
  · rename_i ho; exact vAlloc_ok hT ho h
  · rename_i ho; exact of_V (vBuild_ok hT ho h)
  · rename_i ho; exact vStore_ok hT ho h
  · rename_i ho; exact vBuildSlice_ok hT ho h
  · rename_i ho; exact vMake_ok hT ho h
  · rename_i ho; exact of_V (vSlice_ok hT ho h)
  · rename_i ho; exact of_V (vConv_ok hT ho h)
  · rename_i ho; exact of_V (vMakeFn_ok ho h)
  · rename_i ho; exact vCall_ok hT ho h
  · exact h.h
theorem brB_ok {p : Bool} {X Y : Unit → Prop} (h : brB p X Y) : (p = true → X ()) ∧ (p = false → Y ()) := by
  cases p with
  | true => exact ⟨fun _ => h, (fun h => by cases h)⟩
  | false => exact ⟨(fun h => by cases h), fun _ => h⟩
/-- At a fork: told which way. -/
theorem br {p : Bool} {X Y : Prop} (hx : p = true → X) (hy : p = false → Y) : match (generalizing := false) p with | true => X | false => Y := by
  cases p with
  | true => exact hx rfl
  | false => exact hy rfl
/-- A temporary is told anew. -/
theorem Inv.retell {E : Env} {G : Nat → Prop} {gs : Gh} {tmps : Array Value} {w : World} (hi : Inv E G gs S tmps w) {i : Nat} {x : A} (hx : TRel w G S.rows gs x (vat E tmps i) []) (hN : i < S.N) :
    Inv E G gs (S.put (some i) x) tmps w := by
  unfold State.put
  dsimp only
  rw [if_pos hN]
  refine ⟨hi.keep, hi.os, hi.tape, hi.output, hi.size, hi.sz, hi.gsub, hi.gnew, hi.glt, hi.row, hi.nod, hi.own, hi.dis, fun j => ?_⟩
  show TRel w G S.rows gs (lk ((i, x) :: S.t) j) _ []
  simp only [lk]
  split
  · rename_i h; subst h; exact hx
  · exact hi.tmp j
theorem tup_undef (w : World) (G : Nat → Prop) (rows : List (Option Row)) {gs : Gh} : TRel w G rows gs (.tup []) undef [] := TRel.tup (cs := []) .nil
theorem vOps_ok (hT : TabOK P T) (ops : List Oper) : ∀ (os : List Oper) (mv : Option Nat) (S : State) (K : Exit → State → Prop), vOps std P T ops mv os S (K .normal) →
    ∀ E a w, SInv E S a w → wpList P ops.toArray (fun e a' w' => ∃ S', SInv E S' a' w' ∧ K e S') os a w
  | [], mv, S, K, h, E, a, w, hs => ⟨S, hs, h⟩
  | o :: os, mv, S, K, h, E, a, w, hs => by
    have wanted : ∀ S', SInv E S' a w → ∀ mv, vOp std P T mv o S' (fun S'' => vOps std P T ops (madeBy o) os S'' (K .normal)) → Region.wanted o (yielded ops.toArray a.tmps) = true →
        wpList P ops.toArray (fun e a' w' => ∃ S', SInv E S' a' w' ∧ K e S') (o :: os) a w := fun S' hs mv h hw => by
      refine wpList_step fun K' hK' => ?_
      rw [if_pos hw]
      exact vOp_ok hT h E a w K' _ hs fun S' a' w' h1 h2 => hK' _ _ (vOps_ok hT ops os _ S' K h1 E a' w' h2)
    have skipped : ∀ S' mv, SInv E S' a w → vOps std P T ops mv os (S'.put o.dst (.tup [])) (K .normal) → Region.wanted o (yielded ops.toArray a.tmps) = false →
        wpList P ops.toArray (fun e a' w' => ∃ S', SInv E S' a' w' ∧ K e S') (o :: os) a w := fun S' mv hs h hw => by
      refine wpList_step fun K' hK' => ?_
      rw [hw]
      obtain ⟨hd, G, gs, hi⟩ := hs
      exact hK' _ _ (vOps_ok hT ops os mv _ K h E _ w ⟨by rw [put_defers]; exact hd, G, gs, hi.put (tup_undef _ _ _) o.dst⟩)
    unfold vOps at h
    split at h
    · rename_i hg
      exact wanted S hs _ h (by simp [Region.wanted, hg])
    · rename_i j b hg
      split at h <;> try exact h.elim
      rename_i i hat
      split at h <;> try exact h.elim
      rename_i hN
      split at h <;> try exact h.elim
      case h_2 hp =>
        obtain ⟨hd, G, gs, hi⟩ := hs
        have ht := hi.tmp i
        rw [hp, hi.vat_tmp hN] at ht
        obtain ⟨cs, hv, hcs⟩ := tup_inv ht
        have hcs0 : cs = #[] := by
          have := hcs.length
          exact Array.eq_empty_of_size_eq_zero (by simpa using this)
        subst hcs0
        have hsz : i < a.tmps.size := by rw [hi.sz]; exact hN
        have h1 : ((ops.toArray[j]?).bind (·.dst)) = some i := by simpa [guardAt] using hat
        have hy : yielded ops.toArray a.tmps j = none := by
          unfold yielded
          rw [h1]
          rw [Array.getD_eq_getD_getElem?, Array.getElem?_eq_getElem hsz] at hv
          simp only [Option.getD_some] at hv
          simp [Array.getElem?_eq_getElem hsz, hv]
        exact skipped _ _ ⟨hd, G, gs, hi⟩ h (by simp [Region.wanted, hg, hy])
      rename_i p hp
      have hy : ∀ q, p = q → yielded ops.toArray a.tmps j = some q ∧ SInv E (S.put (some i) (.sc (.bool q))) a w := fun q hq => by
        subst hq
        obtain ⟨hd, G, gs, hi⟩ := hs
        have ht := hi.tmp i
        have ht' := ht
        rw [hp, hi.vat_tmp hN] at ht
        have hv := (sc_inv ht).1
        refine ⟨?_, hd, G, gs, hi.retell (by rw [hp] at ht'; exact ht') hN⟩
        have hsz : i < a.tmps.size := by rw [hi.sz]; exact hN
        have h1 : ((ops.toArray[j]?).bind (·.dst)) = some i := by simpa [guardAt] using hat
        unfold yielded
        rw [h1]
        rw [Array.getD_eq_getD_getElem?, Array.getElem?_eq_getElem hsz] at hv
        simp only [Option.getD_some] at hv
        simp [Array.getElem?_eq_getElem hsz, hv]
      obtain ⟨ht, hf⟩ := brB_ok h
      cases p with
      | true =>
        obtain ⟨hy1, hy2⟩ := hy true rfl
        have := ht rfl
        cases b with
        | true => exact wanted _ hy2 _ this (by simp [Region.wanted, hg, hy1])
        | false => exact skipped _ _ hy2 this (by simp [Region.wanted, hg, hy1])
      | false =>
        obtain ⟨hy1, hy2⟩ := hy false rfl
        have := hf rfl
        cases b with
        | true => exact skipped _ _ hy2 this (by simp [Region.wanted, hg, hy1])
        | false => exact wanted _ hy2 _ this (by simp [Region.wanted, hg, hy1])
theorem VC_region (hT : TabOK P T) {id : Nat} {ops : Array Oper} {K : Exit → State → Prop} (h : vOps std P T ops.toList none ops.toList S (K .normal)) : VC P (.region id ops false) S K := by
  intro E a w hs
  have := vOps_ok hT ops.toList ops.toList none S K h E a w hs
  exact wp_region_list (by simpa using this)
theorem VC_condO {x : Operand} {c d : Code} {K : Exit → State → Prop} {b : Bool} (hc : ev S x = .sc (.bool b)) (ht : b = true → VC P c S K) (hf : b = false → VC P d S K) : VC P (.cond x c d) S K := by
  intro E a w hs
  obtain ⟨hd, G, gs, hi⟩ := hs
  have h := ev_rel hi x rfl
  rw [hc] at h
  have hv := (sc_inv h).1
  cases b with
  | true => exact wp_cond_true hv (ht rfl E a w ⟨hd, G, gs, hi⟩)
  | false => exact wp_cond_false hv (hf rfl E a w ⟨hd, G, gs, hi⟩)
theorem vC_ok (hT : TabOK P T) : ∀ (c : Code) (S : State) (K : Exit → State → Prop), vC std P T c S K → VC P c S K
  | .skip, S, K, h => VC_skip h
  | .exit id, S, K, h => VC_exit h
  | .ret, S, K, h => VC_ret h
  | .seq x y, S, K, h => by
    refine VC_seq (VC.mono (vC_ok hT x S _ h) fun e S' h => ?_)
    cases e <;> first | exact vC_ok hT y _ _ h | exact h
  | .block id c, S, K, h => VC_block (vC_ok hT c S _ h)
  | .cond x c d, S, K, h => by
    unfold vC at h
    split at h <;> try exact h.elim
    rename_i p hp
    obtain ⟨h1, h2⟩ := brB_ok h
    exact VC_condO hp (fun hb => vC_ok hT c S K (h1 hb)) (fun hb => vC_ok hT d S K (h2 hb))
  | .region _ ops false, S, K, h => VC_region hT h
  | .region _ ops true, S, K, h => (show VCX P _ S K from h).h
  | .loop c, S, K, h => (show VCX P _ S K from h).h
  | .rangeFunc _ _ _ _, S, K, h => (show VCX P _ S K from h).h
  | .scope _, S, K, h => (show VCX P _ S K from h).h
  | .label _, S, K, h => (show VCX P _ S K from h).h
  | .goto _, S, K, h => (show VCX P _ S K from h).h
  | .refuse _, S, K, h => (show VCX P _ S K from h).h
/-- Where a walk begins. -/
theorem vstart (hT : TabOK P T) {Ω : Opq} (hΩ : Ω = std) {c : Code} {K : Exit → State → Prop} (h : vC Ω P T c S K) : VC P c S K := by
  subst hΩ; exact vC_ok hT c S K h
end
end Go.Fw

/- Contracts from the reckoning; states told otherwise. Plain theorems, no condition. -/
set_option linter.unusedVariables false
set_option linter.unusedSimpArgs false
namespace Go.Fw
section
variable {P : Program} {T : Nat → Option TI} {S : State} {o : Oper} {K : State → Prop}

theorem load_pt {E : Env} {G : Nat → Prop} {gs : Gh} {tmps : Array Value} {w : World} (hi : Inv E G gs S tmps w) {r j q : Nat} {row : Row} {y z : A} {t : TypeId} {u : Value} (h1 : TRel w G S.rows gs (.pt r j q) u [])
    (hr : rowAt S.rows r = some row) (hy : row.xs[j]? = some y) (ha : aggT P t = some false) (hz : y.cells[q]? = some z) (hno : noOwn z = true) :
    ∃ ad v, u = .pointer (some ad) ∧ (loadVar t ad).run P w = .ok v w ∧ TRel w G S.rows gs z v [] := by
  obtain ⟨row', b, hr', hb, hv⟩ := pt_inv h1
  rw [hr] at hr'
  obtain rfl := Option.some.inj hr'
  have hq : q < y.cells.length := by
    rcases Nat.lt_or_ge q y.cells.length with h | h
    · exact h
    · rw [List.getElem?_eq_none h] at hz; simp at hz
  have hw : y.width = row.n := by
    obtain ⟨b', _, hrc⟩ := row_real hi hr (by
      intro h0
      rw [List.eq_nil_of_length_eq_zero h0] at hy
      simp at hy)
    obtain ⟨_, _, _, _, _, _, _, h5, _⟩ := hrc.ex
    exact h5 y (List.mem_of_getElem? hy)
  unfold A.width at hw
  have hseg : (y.cells.drop q).take 1 = [z] := by
    rw [List.drop_eq_getElem_cons hq]
    rw [List.getElem?_eq_getElem hq] at hz
    simp only [Option.some.injEq] at hz
    simp [hz]
  obtain ⟨b1, cur, e, cs, g0, g1, g2, g3, g4⟩ := row_seg (a := ⟨tmps, []⟩) hi hr hy (o := q) (s := 1) (by omega) (by rw [hseg]; simpa using hno)
  rw [hb] at g0
  obtain rfl := Option.some.inj g0
  rw [hseg] at g3
  obtain ⟨v, hv1, hv2⟩ := g3.get 0 z rfl
  have hcur : cur[j * row.n + q]? = some v := by
    rw [← g2] at hv1
    rw [List.getElem?_take_of_lt (by omega), List.getElem?_drop] at hv1
    simpa using hv1
  exact ⟨_, v, hv, run_loadVar_cell ha g1 hcur, hv2⟩
theorem load_ptAgg {E : Env} {G : Nat → Prop} {gs : Gh} {tmps : Array Value} {w : World} (hi : Inv E G gs S tmps w) {r j q s : Nat} {row : Row} {y : A} {t : TypeId} {u : Value} (h1 : TRel w G S.rows gs (.pt r j q) u [])
    (hr : rowAt S.rows r = some row) (hy : row.xs[j]? = some y) (ha : aggT P t = some true) (hs : szT P t = some s) (hq : q + s ≤ row.n) (hno : ((y.cells.drop q).take s).all noOwn = true) :
    ∃ ad v, u = .pointer (some ad) ∧ (loadVar t ad).run P w = .ok v w ∧ TRel w G S.rows gs (.agg ((y.cells.drop q).take s)) v [] := by
  obtain ⟨row', b, hr', hb, hv⟩ := pt_inv h1
  rw [hr] at hr'
  obtain rfl := Option.some.inj hr'
  obtain ⟨b1, cur, e, cs, g0, g1, g2, g3, g4⟩ := row_seg (a := ⟨tmps, []⟩) hi hr hy hq hno
  rw [hb] at g0
  obtain rfl := Option.some.inj g0
  exact ⟨_, .agg cs.toArray, hv, run_loadVar_agg ha hs g1 g2 g4, .agg g3⟩

structure FitX (z x : A) : Prop where
  h : ∃ k, fitA k z x
theorem fitA_refl0 (x : A) : fitA 0 x x := by simp [fitA]
theorem FitX.same {x : A} : FitX x x := ⟨0, fitA_refl0 x⟩
theorem FitX.of {x y : A} (h : x = y) : FitX x y := h ▸ FitX.same
theorem fitL_refl {k : Nat} (ih : ∀ x, fitA k x x) : ∀ xs, fitA.fitL k xs xs
  | [] => by rw [fitA.fitL]; trivial
  | x :: xs => by rw [fitA.fitL]; exact ⟨ih x, fitL_refl ih xs⟩
theorem fitA_refl : ∀ (k : Nat) (x : A), fitA k x x
  | 0, x => fitA_refl0 x
  | k + 1, x => by
    have ih := fitL_refl (fitA_refl k)
    unfold fitA
    cases x <;> first | rfl | exact ih _
theorem fits {k : Nat} (xs : List A) : fitA.fitL k xs xs := fitL_refl (fitA_refl k) xs
/-- What the results' variables hold. -/
def vRes (T : Nat → Option TI) (S : State) : List ResultVar → (List A → Prop) → Prop
  | [], k => k []
  | .tmp t :: rs, k => vRes T S rs fun zs => k (ev S (.tmp t) :: zs)
  | .cell a t :: rs, k =>
    match T t, ev S (.tmp a) with
    | some i, .pt r j q => (match rowAt S.rows r with
      | some row => (match row.xs[j]? with
        | some y => vCell i row.n y q fun z => vRes T S rs fun zs => k (z :: zs)
        | none => False)
      | none => False)
    | _, _ => False
def vOut (Ω : Opq) (T : Nat → Option TI) (S : State) (rs : List ResultVar) (x : A) : Prop :=
  vRes T S rs fun zs => if (flat zs).all okCell then vStash Ω (flat zs).length S (flat zs) fun ys _ _ => FitX (oneA (regroup zs ys)) x else False
def outV (Ω : Opq) (T : Nat → Option TI) (rs : List ResultVar) (x : A) : Exit → State → Prop
  | .normal, S | .ret, S => vOut Ω T S rs x
  | _, _ => False
theorem vRes_ok (hT : TabOK P T) {E : Env} {G : Nat → Prop} {gs : Gh} {tmps : Array Value} {w : World} (hi : Inv E G gs S tmps w) : ∀ {rs : List ResultVar} {k : List A → Prop}, vRes T S rs k →
    ∃ zs vs, k zs ∧ resOK P tmps w rs vs ∧ TRelL w G S.rows gs zs vs []
  | [], k, h => ⟨[], [], h, trivial, .nil⟩
  | .tmp t :: rs, k, h => by
    obtain ⟨zs, vs, h1, h2, h3⟩ := vRes_ok hT hi (rs := rs) h
    exact ⟨_, tmps.getD t undef :: vs, h1, ⟨rfl, h2⟩, .cons (F := []) (Fs := []) (ev_rel (a := ⟨tmps, []⟩) hi (.tmp t) rfl) h3⟩
  | .cell a t :: rs, k, h => by
    unfold vRes at h
    split at h <;> try exact h.elim
    rename_i i r j q hti ha
    have hti := tiOf_ok (hT _ _ hti)
    split at h <;> try exact h.elim
    rename_i row hr
    split at h <;> try exact h.elim
    rename_i y hy
    have h1 := ev_rel (a := ⟨tmps, []⟩) hi (.tmp a) rfl
    rw [ha] at h1
    unfold vCell at h
    split at h
    · rename_i hag
      split at h <;> try exact h.elim
      rename_i hq
      split at h <;> try exact h.elim
      rename_i hno
      obtain ⟨ad, v, g1, g2, g3⟩ := load_ptAgg hi h1 hr hy (by rw [hti.ag, hag]) hti.sz hq hno
      obtain ⟨zs, vs, h1, h2, h3⟩ := vRes_ok hT hi (rs := rs) h
      exact ⟨_, v :: vs, h1, ⟨⟨ad, g1, g2⟩, h2⟩, .cons (F := []) (Fs := []) g3 h3⟩
    · rename_i hag
      split at h <;> try exact h.elim
      rename_i z hz
      split at h <;> try exact h.elim
      rename_i hno
      obtain ⟨ad, v, g1, g2, g3⟩ := load_pt hi h1 hr hy (by rw [hti.ag]; simpa using hag) hz hno
      obtain ⟨zs, vs, h1, h2, h3⟩ := vRes_ok hT hi (rs := rs) h
      exact ⟨_, v :: vs, h1, ⟨⟨ad, g1, g2⟩, h2⟩, .cons (F := []) (Fs := []) g3 h3⟩
theorem flat_rel {G : Nat → Prop} {gs : Gh} {w : World} {rows : List (Option Row)} : ∀ {xs : List A} {vs : List Value}, TRelL w G rows gs xs vs [] → (flat xs).all okCell = true → TRelL w G rows gs (flat xs) (vs.flatMap fun v => v.cells.toList) []
  | xs, vs, h, hok => by
    generalize hF : ([] : List Nat) = F at h
    cases h with
    | nil => rw [← hF]; exact .nil
    | cons h hl =>
      rename_i x v F xs vs Fs
      have hF' : F = [] ∧ Fs = [] := by simpa using hF.symm
      obtain ⟨rfl, rfl⟩ := hF'
      rw [flat_cons, List.all_append, Bool.and_eq_true] at hok
      rw [flat_cons, List.flatMap_cons]
      exact (cells_rel h hok.1).append0 (flat_rel hl hok.2)
theorem RelL.split_at {G : Nat → Prop} {w : World} {xs : List A} {vs us : List Value} {F : List Nat} (h : RelL w G xs (vs ++ us) F) : ∃ F1 F2, F = F1 ++ F2 ∧ RelL w G (xs.take vs.length) vs F1 ∧ RelL w G (xs.drop vs.length) us F2 := by
  obtain ⟨F1, F2, e, h1, h2⟩ := h.take_ vs.length
  rw [List.take_left] at h1
  rw [List.drop_left] at h2
  exact ⟨F1, F2, e, h1, h2⟩
theorem regroup_rel {G G' : Nat → Prop} {gs : Gh} {w : World} {rows : List (Option Row)} : ∀ {xs : List A} {vs : List Value} {ys : List A} {F : List Nat}, TRelL w G rows gs xs vs [] → (flat xs).all okCell = true →
    RelL w G' ys (vs.flatMap fun v => v.cells.toList) F → RelL w G' (regroup xs ys) vs F
  | xs, vs, ys, F, h, hok, hy => by
    generalize hF : ([] : List Nat) = F0 at h
    cases h with
    | nil =>
      simp only [List.flatMap_nil] at hy
      have := hy.length
      cases hy
      exact .nil
    | cons h hl =>
      rename_i x v F1 xs vs Fs
      have hF' : F1 = [] ∧ Fs = [] := by simpa using hF.symm
      obtain ⟨rfl, rfl⟩ := hF'
      rw [flat_cons, List.all_append, Bool.and_eq_true] at hok
      rw [List.flatMap_cons] at hy
      obtain ⟨Fa, Fb, rfl, g1, g2⟩ := hy.split_at
      have hcl := (cells_rel h hok.1).length
      rw [hcl] at g1 g2
      have hrec := regroup_rel hl hok.2 g2
      have one : x.cells = [x] → RelL w G' (ys.headD .un :: regroup xs (ys.drop 1)) (v :: vs) (Fa ++ Fb) := fun hc => by
        rw [hc] at g1 hcl hrec
        have hok1 : okCell x = true := by
          have := hok.1
          rw [hc] at this
          simpa using this
        simp only [List.length_singleton] at g1 hcl hrec
        have hv : v.cells.toList = [v] := by
          have := okCell_v h hok1
          revert this
          generalize v = u
          intro this
          cases u <;> first | rfl | (simp [cellV, Value.oneCell'] at this)
        rw [hv] at g1
        cases ys with
        | nil => have := g1.length; simp at this
        | cons y ys =>
          simp only [List.take_succ_cons, List.take_zero] at g1
          have g1' : Rel w G' y v Fa := by
            generalize hu : [v] = us at g1
            cases g1 with
            | cons a b =>
              cases b
              cases hu
              simpa using a
          exact .cons g1' hrec
      cases x with
      | agg cs =>
        obtain ⟨us, rfl, _⟩ := agg_inv h
        simp only [regroup]
        refine .cons ?_ hrec
        exact Rel.agg (cs := us.toList) g1
      | _ => exact one rfl
theorem outV_ok (hT : TabOK P T) {rs : List ResultVar} {x : A} {e : Exit} (h : outV std T rs x e S) : outK P rs x e S := by
  have key : vOut std T S rs x → Outs P rs x S := fun h E G gs tmps w hi => by
    obtain ⟨zs, vs, h1, h2, h3⟩ := vRes_ok hT hi h
    split at h1 <;> try exact h1.elim
    rename_i hok
    obtain ⟨hc, ho⟩ := vStash_ok _ _ _ _ h1
    obtain ⟨k, hfit⟩ := ho.h
    obtain ⟨F, hst, hrel⟩ := stashL_ok _ _ S _ [] rfl hi Res.nil (flat_rel h3 hok) hc
    rw [List.append_nil] at hst
    exact ⟨vs, _, F, k, h2, regroup_rel h3 hok hrel, hst.res.nod, hst.res.own, hfit⟩
  cases e with
  | normal => exact key h
  | ret => exact key h
  | _ => exact h.elim
/-- A contract by the reckoning. -/
theorem PCtr.walk (hT : TabOK P T) {Ω : Opq} (hΩ : Ω = std) {g : Nat} {c : Code} {N : Nat} {rs : List ResultVar} {xs : List A} {x : A} (hf : FnAt P g c N rs) (hN : Nat.ble xs.length N = true) (h : vC Ω P T c (entryS N xs) (outV Ω T rs x)) : PCtr P g xs x :=
  PCtr.of hf (Nat.le_of_ble_eq_true hN) (VC.mono (vstart hT hΩ h) fun e S' h => outV_ok hT (hΩ ▸ h))

def subL (t : List (Nat × A)) : List (Nat × A) → Prop
  | [] => True
  | (k, x) :: l => lk t k = x ∧ subL t l
theorem subL_ok {t : List (Nat × A)} : ∀ {t' l : List (Nat × A)}, subL t t' → (∀ p ∈ l, lk t p.1 = lk (l ++ t') p.1) → True := fun _ _ => trivial
theorem subL_T {t : List (Nat × A)} : ∀ {t' : List (Nat × A)}, subL t t' → ∀ p ∈ t', lk t' p.1 = lk t p.1
  | (k, x) :: l, h, p, hp => by
    obtain ⟨h1, h2⟩ := h
    simp only [lk]
    split
    · rename_i e; rw [← e, h1]
    · rename_i hne
      rcases List.mem_cons.1 hp with rfl | hp
      · exact (hne rfl).elim
      · exact subL_T h2 p hp
theorem Sbs.mk {S S' : State} (hN : S.N = S'.N) (hr : S.rows = S'.rows) (ht : subL S.t S'.t) : Sbs S S' := by
  cases S with | mk t N rows => cases S' with | mk t' N' rows' =>
    dsimp only at hN hr ht
    subst hN; subst hr
    exact Sbs.of (subL_T ht)
theorem Sbs.trans {S S' S'' : State} (h : Sbs S S') (h' : Sbs S' S'') : Sbs S S'' := fun E a w hs => h' E a w (h E a w hs)
/-- A row that is not asked for any more. -/
theorem Sbs.drop {r : Nat} {row : Row} (hr : rowAt S.rows r = some row) : Sbs S (S.turn r none) := by
  intro E a w ⟨hd, G, gs, hi⟩
  refine ⟨hd, G, _, hi.turn (x := none) (ob := none) (F := []) hr rfl rfl rfl (Nat.le_refl _) (fun _ _ _ => rfl) (by simp) (by simp) (by simp) (by simp)⟩
theorem Sbs.trim {t : List (Nat × A)} {N : Nat} {rows : List (Option Row)} : Sbs ⟨t, N, rows ++ [none]⟩ ⟨t, N, rows⟩ := by
  intro E a w ⟨hd, G, gs, hi⟩
  have hrow : ∀ r, rowAt (rows ++ [none]) r = rowAt rows r := fun r => by
    rw [rowAt_push]; split
    · rename_i h; rw [rowAt_none (by omega)]
    · rfl
  have hle : ∀ r, RowLe w w (rows ++ [none]) rows gs gs r := fun r => RowLe.refl_of fun row h => ⟨by rw [← hrow]; exact h, rfl, fun _ _ => rfl⟩
  refine ⟨hd, G, gs, ⟨hi.keep, hi.os, hi.tape, hi.output, hi.size, hi.sz, hi.gsub, hi.gnew, hi.glt, fun r row hr => (hi.row r row (by rw [← hrow] at hr; exact hr)).step (fun b hb => ⟨hb, rfl⟩) hle (fun _ _ => rfl),
    fun r row hr => hi.nod r row (by rw [← hrow] at hr; exact hr), fun r row hr => hi.own r row (by rw [← hrow] at hr; exact hr),
    fun r r' row row' hr hr' => hi.dis r r' row row' (by rw [← hrow] at hr; exact hr) (by rw [← hrow] at hr'; exact hr'), fun i => (hi.tmp i).step (fun b hb => ⟨hb, rfl⟩) hle (by simp)⟩⟩
/-- A nil slice told as an own row without a block. -/
theorem Sbs.nilRow {i n : Nat} (h : lk S.t i = .nil) (hN : i < S.N) : Sbs S ((S.addRow ⟨n, [], false⟩).put (some i) (.vw S.rows.length 0 0)) := by
  intro E a w ⟨hd, G, gs, hi⟩
  have := adopt_res (R1 := []) (R2 := []) (ob := none) (F := []) hi Res.nil (by simp) rfl (row := ⟨n, [], false⟩) (fun _ _ => ⟨rfl, rfl⟩)
  have ht := hi.tmp i
  rw [h] at ht
  have hv : vat E a.tmps i = .slice none 0 0 := by
    generalize vat E a.tmps i = v at ht
    cases ht with | of h => cases h; rfl
  have hself : (gs.add S.rows.length none []) S.rows.length = (none, []) := by simp [Gh.add]
  refine ⟨hd, G, _, this.inv.retell ?_ hN⟩
  rw [hv]
  refine .vwn (row := ⟨n, [], false⟩) ?_ (by rw [hself]) rfl
  show rowAt (S.rows ++ [some ⟨n, [], false⟩]) S.rows.length = _
  rw [rowAt_push, if_pos rfl]
end
end Go.Fw

/- Regions whose order is drawn: what only reads. Helpers for walks. Plain theorems, no condition. -/
set_option linter.unusedVariables false
set_option linter.unusedSimpArgs false
namespace Go.Fw

/-- Values that are told whole by what they are. -/
def detL : List A → Option (List Value)
  | [] => some []
  | .sc v :: xs => if cellV v then (detL xs).map fun vs => v :: vs else none
  | _ => none
def detA : A → Option Value
  | .sc v => if cellV v then some v else none
  | .agg xs => (detL xs).map fun vs => .agg vs.toArray
  | _ => none
theorem detL_rel {w : World} {G : Nat → Prop} : ∀ {xs : List A} {us vs : List Value} {F : List Nat}, detL xs = some us → RelL w G xs vs F → vs = us ∧ F = []
  | [], us, vs, F, h, hl => by cases hl; simp [detL] at h; exact ⟨h.symm ▸ rfl, rfl⟩
  | x :: xs, us, _, _, h, .cons hx hl => by
    cases x <;> try (simp [detL] at h; done)
    cases hx with
    | sc hc =>
      simp only [detL, hc, if_true, Option.map_eq_some_iff] at h
      obtain ⟨us', h1, rfl⟩ := h
      obtain ⟨rfl, rfl⟩ := detL_rel h1 hl
      exact ⟨rfl, rfl⟩
theorem detL_any {w : World} {G : Nat → Prop} : ∀ {xs : List A} {us : List Value}, detL xs = some us → RelL w G xs us []
  | [], us, h => by simp [detL] at h; subst h; exact .nil
  | x :: xs, us, h => by
    cases x <;> try (simp [detL] at h; done)
    rename_i v
    simp only [detL] at h
    split at h
    · rename_i hc
      simp only [Option.map_eq_some_iff] at h
      obtain ⟨us', h1, rfl⟩ := h
      exact .cons (F := []) (.sc hc) (detL_any h1)
    · simp at h
theorem detA_rel {w : World} {G : Nat → Prop} {x : A} {u v : Value} {F : List Nat} (h : detA x = some u) (hx : Rel w G x v F) : v = u := by
  cases x <;> try (simp [detA] at h; done)
  · cases hx with | sc hc => simp only [detA, hc, if_true, Option.some.injEq] at h; exact h
  · cases hx with
    | agg hl =>
      simp only [detA, Option.map_eq_some_iff] at h
      obtain ⟨us, h1, rfl⟩ := h
      rw [(detL_rel h1 hl).1]
theorem detA_any {w : World} {G : Nat → Prop} {x : A} {u : Value} (h : detA x = some u) : Rel w G x u [] := by
  cases x <;> try (simp [detA] at h; done)
  · simp only [detA] at h
    split at h
    · rename_i hc; simp only [Option.some.injEq] at h; subst h; exact .sc hc
    · simp at h
  · simp only [detA, Option.map_eq_some_iff] at h
    obtain ⟨us, h1, rfl⟩ := h
    exact .agg (detL_any h1)
structure QCallX (P : Program) (g : Nat) (args : List A) (S : State) (k : A → Prop) : Prop where
  h : Enter P g ∧ ∃ x u, detA x = some u ∧ k x ∧ ∀ (E : Env) (G : Nat → Prop) (gs : Gh) (tmps : Array Value) (w : World) (vs : List Value), Inv E G gs S tmps w → TRelL w G S.rows gs args vs [] →
    Calls P g vs.toArray w (fun e w' => e = .returned u ∧ Go.RowKit.Below w.heap.size w w')
def vQCall (Ω : Opq) (P : Program) (T : Nat → Option TI) (S : State) (f : Callee) (args : List Operand) (ts : List TypeId) (k : A → Prop) : Prop :=
  match f with
  | .value (.func g) => if g < 1000000 then QCallX P g (args.map (ev S)) S k else False
  | .value f => (match ev S f with
    | .clo g caps => QCallX P (Ω.cloN g) (Ω.cloA g (args.map (ev S)) caps) S k
    | _ => False)
  | .builtin .len => (match args, ts with
    | [x], [t] => vLen Ω T t (ev S x) k
    | _, _ => False)
  | _ => False
def vQOp (Ω : Opq) (P : Program) (T : Nat → Option TI) (o : Oper) (S : State) (k : A → Prop) : Prop :=
  match o.op with
  | .move x => k (ev S x)
  | .assign x => k (ev S x)
  | .pick c x y => vPick Ω (ev S c) (ev S x) (ev S y) k
  | .unOp op _ x => vUn Ω op (ev S x) k
  | .binOp op t x y _ => vBinA Ω P T op t (ev S x) (ev S y) k
  | .load t x => vLoad T t S (ev S x) k
  | .fieldAddr t x i => vFieldAddr T t i (ev S x) k
  | .field t x i => vField T t i (ev S x) k
  | .indexAddr t x y => vIndexAddr Ω T t S (ev S x) (ev S y) k
  | .index t x y => vIndex Ω T t (ev S x) (ev S y) k
  | .extract x i => vExtract (ev S x) i k
  | .nilCheck x => vNilCheck (ev S x) k
  | .build t parts => vBuild T t (parts.toList.map fun p => (p.1, ev S p.2)) k
  | .slice t x lo hi none => vSlice Ω T t S (ev S x) (lo.map (ev S)) (hi.map (ev S)) k
  | .convert src dst x => vConv Ω T src dst S (ev S x) k
  | .makeFunc f first caps => vMakeFn f (first.toList.map (ev S)) (caps.toList.map (ev S)) k
  | .call c => vQCall Ω P T S c.callee c.args.toList c.argTypes.toList k
  | _ => False
def vQs (Ω : Opq) (P : Program) (T : Nat → Option TI) (ops : List Oper) : List Oper → State → (State → Prop) → Prop
  | [], S, K => K S
  | o :: os, S, K =>
    match o.guard with
    | none => vQOp Ω P T o S fun z => vQs Ω P T ops os (S.put o.dst z) K
    | some (j, b) =>
      match guardAt ops j with
      | none => False
      | some i => if i < S.N then (match lk S.t i with
        | .sc (.bool p) => brB p
            (fun _ => match b with
              | true => vQOp Ω P T o (S.put (some i) (.sc (.bool true))) fun z => vQs Ω P T ops os ((S.put (some i) (.sc (.bool true))).put o.dst z) K
              | false => vQs Ω P T ops os ((S.put (some i) (.sc (.bool true))).put o.dst (.tup [])) K)
            (fun _ => match b with
              | true => vQs Ω P T ops os ((S.put (some i) (.sc (.bool false))).put o.dst (.tup [])) K
              | false => vQOp Ω P T o (S.put (some i) (.sc (.bool false))) fun z => vQs Ω P T ops os ((S.put (some i) (.sc (.bool false))).put o.dst z) K)
        | .tup [] => vQs Ω P T ops os (S.put o.dst (.tup [])) K
        | _ => False) else False

section
variable {P : Program} {T : Nat → Option TI} {S : State} {o : Oper} {K : State → Prop}
/-- The operation is quiet: a value that does not depend on how memory has grown. -/
def QOK (P : Program) (o : Oper) (S : State) (x : A) : Prop :=
  ∀ (E : Env) (G : Nat → Prop) (gs : Gh) (a : Act) (w : World), Inv E G gs S a.tmps w →
    ∃ v, (∀ w', Go.RowKit.Below w.heap.size w w' → o.quietAt P a (fun w'' => Go.RowKit.Below w.heap.size w w'') w' v) ∧ TRel w G S.rows gs x v []
theorem QOK.of {x : A} (h : VOK P o S x) : QOK P o S x := fun E G gs a w hi => by
  obtain ⟨v, h1, h2⟩ := h E G gs a w hi
  refine ⟨v, fun w' hw' => ?_, h2⟩
  unfold Oper.quietAt
  rw [h1 w' hw']
  exact ⟨rfl, rfl⟩
theorem of_VQ {k : A → Prop} (h : ∃ z, VOK P o S z ∧ k z) : ∃ z, QOK P o S z ∧ k z := let ⟨z, h1, h2⟩ := h; ⟨z, .of h1, h2⟩
theorem QCall_ok {k : A → Prop} {ci : Call} {f : Operand} {g : Nat} {caps : List A} (ho : o.op = .call ci) (hf : ci.callee = .value f) (he : ev S f = .clo g caps) (h : QCallX P (cloN g) (cloA g (ci.args.toList.map (ev S)) caps) S k) : ∃ z, QOK P o S z ∧ k z := by
  obtain ⟨hen, x, u, hu, hk, hrun⟩ := h.h
  refine ⟨x, fun E G gs a w hi => ⟨u, fun w' hw' => ?_, .of (detA_any hu)⟩, hk⟩
  have hi' : Inv E G gs S a.tmps w' := hi.below hw' (fun _ h => h) (fun _ h => .inl h) (fun b h => Nat.lt_of_lt_of_le (hi.glt b h) hw'.size)
  have hf' := ev_rel hi' f rfl
  rw [he] at hf'
  obtain ⟨cs, hv, hcs⟩ := hf'.clo_inv
  have hargs := cloA_rel (g := g) (evs_rel hi' ci.args.toList) hcs
  unfold Oper.quietAt
  rw [clo_call ho hf hv hen w']
  refine ⟨rfl, (hrun E G gs a.tmps w' _ hi' hargs).mono ?_⟩
  rintro e w'' ⟨he, hb⟩
  exact ⟨he, ⟨hb.os.trans hw'.os, hb.tape.trans hw'.tape, hb.output.trans hw'.output, Nat.le_trans hw'.size hb.size, fun b hbl => (hb.block b (Nat.lt_of_lt_of_le hbl hw'.size)).trans (hw'.block b hbl)⟩⟩
theorem vQCall_ok (hT : TabOK P T) {k : A → Prop} {ci : Call} (ho : o.op = .call ci) (h : vQCall std P T S ci.callee ci.args.toList ci.argTypes.toList k) : ∃ z, QOK P o S z ∧ k z := by
  unfold vQCall at h
  split at h <;> try exact h.elim
  · rename_i g hf
    split at h <;> try exact h.elim
    rename_i hg
    have he : ev S (.func g) = .clo g [] := if_pos hg
    refine QCall_ok ho hf he ?_
    unfold cloN cloA
    rw [if_pos hg, if_pos hg, List.append_nil]
    exact h
  · rename_i f hnf hf
    split at h <;> try exact h.elim
    rename_i g caps he
    exact QCall_ok ho hf he h
  · rename_i hf
    split at h <;> try exact h.elim
    rename_i x t h1 h2
    exact of_VQ (vLen_ok hT ho hf h1 h2 h)
theorem vQOp_ok (hT : TabOK P T) {k : A → Prop} (h : vQOp std P T o S k) : ∃ z, QOK P o S z ∧ k z := by
  unfold vQOp at h
  split at h
  · rename_i x ho; exact ⟨_, .of (VOK_move (.inl ho) rfl), h⟩
  · rename_i x ho; exact ⟨_, .of (VOK_move (.inr ho) rfl), h⟩
  · rename_i ho; exact of_VQ (vPick_ok ho h)
  · rename_i ho; exact of_VQ (vUn_ok ho h)
  · rename_i ho; exact of_VQ (vBinA_ok hT ho h)
  · rename_i ho; exact of_VQ (vLoad_ok hT ho h)
  · rename_i ho; exact of_VQ (vFieldAddr_ok hT ho h)
  · rename_i ho; exact of_VQ (vField_ok hT ho h)
  · rename_i ho; exact of_VQ (vIndexAddr_ok hT ho h)
  · rename_i ho; exact of_VQ (vIndex_ok hT ho h)
  · rename_i ho; exact of_VQ (vExtract_ok ho h)
  · rename_i ho; exact of_VQ (vNilCheck_ok ho h)
  · rename_i ho; exact of_VQ (vBuild_ok hT ho h)
  · rename_i ho; exact of_VQ (vSlice_ok hT ho h)
  · rename_i ho; exact of_VQ (vConv_ok hT ho h)
  · rename_i ho; exact of_VQ (vMakeFn_ok ho h)
  · rename_i ho; exact vQCall_ok hT ho h
  · exact h.elim
theorem vQs_ok (hT : TabOK P T) (ops : List Oper) {C : World → Prop} {Qa : Act → Prop} {E : Env} {w : World} (hC : ∀ w', C w' ↔ Go.RowKit.Below w.heap.size w w')
    (hQ : ∀ a S, SInv E S a w → K S → Qa a) : ∀ (os : List Oper) (S : State), vQs std P T ops os S K → ∀ a, SInv E S a w → wpQuiet P ops.toArray C Qa os a
  | [], S, h, a, hs => hQ a S hs h
  | o :: os, S, h, a, hs => by
    have hC' : C = fun w' => Go.RowKit.Below w.heap.size w w' := funext fun w' => propext (hC w')
    have wanted : ∀ S', SInv E S' a w → vQOp std P T o S' (fun z => vQs std P T ops os (S'.put o.dst z) K) → Region.wanted o (yielded ops.toArray a.tmps) = true → wpQuiet P ops.toArray C Qa (o :: os) a := fun S' hs h hw => by
      refine wpQuiet_step fun K' hK' => ?_
      rw [if_pos hw]
      obtain ⟨z, h1, h2⟩ := vQOp_ok hT h
      obtain ⟨hd, G, gs, hi⟩ := hs
      obtain ⟨v, h3, h4⟩ := h1 E G gs a w hi
      refine ⟨v, fun w' hw' => ?_, hK' _ (vQs_ok hT ops hC hQ os _ h2 _ ⟨by rw [put_defers]; exact hd, G, gs, hi.put h4 o.dst⟩)⟩
      rw [hC']
      exact h3 w' ((hC w').1 hw')
    have skipped : ∀ S', SInv E S' a w → vQs std P T ops os (S'.put o.dst (.tup [])) K → Region.wanted o (yielded ops.toArray a.tmps) = false → wpQuiet P ops.toArray C Qa (o :: os) a := fun S' hs h hw => by
      refine wpQuiet_step fun K' hK' => ?_
      rw [hw]
      obtain ⟨hd, G, gs, hi⟩ := hs
      exact hK' _ (vQs_ok hT ops hC hQ os _ h _ ⟨by rw [put_defers]; exact hd, G, gs, hi.put (tup_undef _ _ _) o.dst⟩)
    unfold vQs at h
    split at h
    · rename_i hg
      exact wanted S hs h (by simp [Region.wanted, hg])
    · rename_i j b hg
      split at h <;> try exact h.elim
      rename_i i hat
      split at h <;> try exact h.elim
      rename_i hN
      split at h <;> try exact h.elim
      case h_2 hp =>
        obtain ⟨hd, G, gs, hi⟩ := hs
        have ht := hi.tmp i
        rw [hp, hi.vat_tmp hN] at ht
        obtain ⟨cs, hv, hcs⟩ := tup_inv ht
        have hcs0 : cs = #[] := by
          have := hcs.length
          exact Array.eq_empty_of_size_eq_zero (by simpa using this)
        subst hcs0
        have hsz : i < a.tmps.size := by rw [hi.sz]; exact hN
        have h1 : ((ops.toArray[j]?).bind (·.dst)) = some i := by simpa [guardAt] using hat
        have hy : yielded ops.toArray a.tmps j = none := by
          unfold yielded
          rw [h1]
          rw [Array.getD_eq_getD_getElem?, Array.getElem?_eq_getElem hsz] at hv
          simp only [Option.getD_some] at hv
          simp [Array.getElem?_eq_getElem hsz, hv]
        exact skipped _ ⟨hd, G, gs, hi⟩ h (by simp [Region.wanted, hg, hy])
      rename_i p hp
      have hy : ∀ q, p = q → yielded ops.toArray a.tmps j = some q ∧ SInv E (S.put (some i) (.sc (.bool q))) a w := fun q hq => by
        subst hq
        obtain ⟨hd, G, gs, hi⟩ := hs
        have ht := hi.tmp i
        have ht' := ht
        rw [hp, hi.vat_tmp hN] at ht
        have hv := (sc_inv ht).1
        refine ⟨?_, hd, G, gs, hi.retell (by rw [hp] at ht'; exact ht') hN⟩
        have hsz : i < a.tmps.size := by rw [hi.sz]; exact hN
        have h1 : ((ops.toArray[j]?).bind (·.dst)) = some i := by simpa [guardAt] using hat
        unfold yielded
        rw [h1]
        rw [Array.getD_eq_getD_getElem?, Array.getElem?_eq_getElem hsz] at hv
        simp only [Option.getD_some] at hv
        simp [Array.getElem?_eq_getElem hsz, hv]
      obtain ⟨ht, hf⟩ := brB_ok h
      cases p with
      | true =>
        obtain ⟨hy1, hy2⟩ := hy true rfl
        have := ht rfl
        cases b with
        | true => exact wanted _ hy2 this (by simp [Region.wanted, hg, hy1])
        | false => exact skipped _ hy2 this (by simp [Region.wanted, hg, hy1])
      | false =>
        obtain ⟨hy1, hy2⟩ := hy false rfl
        have := hf rfl
        cases b with
        | true => exact skipped _ hy2 this (by simp [Region.wanted, hg, hy1])
        | false => exact wanted _ hy2 this (by simp [Region.wanted, hg, hy1])
/-- A region that draws its order. -/
theorem VC_drawn (hT : TabOK P T) {Ω : Opq} (hΩ : Ω = std) (hm : P.follows .mixedOrders = true) {id : Nat} {ops : Array Oper} {K : Exit → State → Prop} (hB : Region.lexB .any ops = true)
    (h : vQs Ω P T ops.toList ops.toList S (K .normal)) : VC P (.region id ops true) S K := by
  subst hΩ
  intro E a w hs
  refine wp_region_quiet (C := fun w' => Go.RowKit.Below w.heap.size w w') hm hB ⟨rfl, rfl, rfl, Nat.le_refl _, fun _ _ => rfl⟩ ?_
  refine vQs_ok (K := K .normal) (E := E) (w := w) hT ops.toList (fun _ => Iff.rfl) (fun a' S' hs' hK w' hw' => ?_) ops.toList S h a hs
  obtain ⟨hd, G, gs, hi⟩ := hs'
  exact ⟨S', ⟨hd, G, gs, hi.below hw' (fun _ h => h) (fun _ h => .inl h) (fun b h => Nat.lt_of_lt_of_le (hi.glt b h) hw'.size)⟩, hK⟩
/-- A call that hands back plain numbers and texts. -/
theorem QCall_pure {g k : Nat} {args ys0 ys : List A} {x : A} {u : Value} {K : A → Prop} (hc : PCtr P g ys x) (h1 : mapO (roO S k) args = some ys0) (h2 : fitA.fitL k ys0 ys) (hu : detA x = some u) (hK : K x) : QCallX P g args S K := by
  refine ⟨hc.enter, x, u, hu, hK, fun E G gs tmps w vs hi hl => ?_⟩
  have hys := fitL_rel (fun x y v F => fitA_rel k x y v F) ys0 ys vs [] h2 (mapO_rel (fun x v F y h hy => roO_rel hi k x v F y h hy) hl h1)
  refine Calls.mono (hc.run w (Old w) vs (fun b h => h) hys) ?_
  rintro e w' ⟨v, F, rfl, hb, hnd, hnew, hr⟩
  rw [detA_rel hu hr]
  exact ⟨rfl, hb⟩

/-- The last row is not asked for any more. -/
theorem Sbs.last {rows : List (Option Row)} {row : Row} (h : S.rows = rows ++ [some row]) : Sbs S ⟨killT rows.length S.t, S.N, killRows rows.length rows⟩ := by
  have hr : rowAt S.rows rows.length = some row := by rw [h, rowAt_push, if_pos rfl]
  refine Sbs.trans (Sbs.drop hr) ?_
  have e : S.turn rows.length none = ⟨killT rows.length S.t, S.N, killRows rows.length rows ++ [none]⟩ := by
    unfold State.turn
    rw [h]
    simp [killRows]
  rw [e]
  exact Sbs.trim
theorem Sbs.mkL {S' : State} {rows : List (Option Row)} {row : Row} (h : S.rows = rows ++ [some row]) (hN : S.N = S'.N) (hr : killRows rows.length rows = S'.rows) (ht : subL (killT rows.length S.t) S'.t) : Sbs S S' :=
  (Sbs.last h).trans (Sbs.mk hN hr ht)
theorem Sbs.lastN {rows : List (Option Row)} (h : S.rows = rows ++ [none]) : Sbs S ⟨S.t, S.N, rows⟩ := by
  have e : S = ⟨S.t, S.N, rows ++ [none]⟩ := by rw [← h]
  rw [e]; exact Sbs.trim
/-! Reckoning in 64 bits. -/
theorem wrap64 {x : Int} (h1 : -9223372036854775808 ≤ x) (h2 : x ≤ 9223372036854775807) : IntKind.i64.wrap x = x := by
  show (if (true && decide (x % 18446744073709551616 ≥ 9223372036854775808)) = true then x % 18446744073709551616 - 18446744073709551616 else x % 18446744073709551616) = x
  simp only [Bool.true_and, decide_eq_true_eq]
  split <;> omega
/-- A loop, by the reckoning: states by an index, what is known of the index, a measure. -/
theorem loopX (hT : TabOK P T) {Ω : Opq} (hΩ : Ω = std) {ι : Type} {c : Code} {K : Exit → State → Prop} (I : ι → State) (p : ι → Prop) (μ : ι → Nat) (i : ι) (hp : p i) (hs : Sbs S (I i))
    (h : ∀ i, p i → vC Ω P T c (I i) (thenK (fun S' => ∃ j, p j ∧ μ j < μ i ∧ Sbs S' (I j)) K)) : VCX P (.loop c) S K := by
  refine ⟨VC.sub (VC_loop (ι := {i // p i}) (fun i => I i.1) (fun i => μ i.1) (fun i => ?_) ⟨i, hp⟩) hs⟩
  refine VC.mono (vstart hT hΩ (h i.1 i.2)) fun e S' h => ?_
  cases e <;> first | exact h | skip
  obtain ⟨j, h1, h2, h3⟩ := h
  exact ⟨⟨j, h1⟩, h2, h3⟩
@[simp] theorem arS_add (k : IntKind) (x y : Int) : arS .add k x y = k.wrap (x + y) := rfl
@[simp] theorem arS_sub (k : IntKind) (x y : Int) : arS .sub k x y = k.wrap (x - y) := rfl
@[simp] theorem arS_mul (k : IntKind) (x y : Int) : arS .mul k x y = k.wrap (x * y) := rfl
@[simp] theorem arS_quo (k : IntKind) (x y : Int) : arS .quo k x y = k.wrap (x.tdiv y) := rfl
@[simp] theorem arS_rem (k : IntKind) (x y : Int) : arS .rem k x y = x.tmod y := rfl
@[simp] theorem cmpIS_eql (x y : Int) : cmpIS .eql x y = (x == y) := rfl
@[simp] theorem cmpIS_neq (x y : Int) : cmpIS .neq x y = (x != y) := rfl
@[simp] theorem cmpIS_lss (x y : Int) : cmpIS .lss x y = decide (x < y) := rfl
@[simp] theorem cmpIS_leq (x y : Int) : cmpIS .leq x y = decide (x ≤ y) := rfl
@[simp] theorem cmpIS_gtr (x y : Int) : cmpIS .gtr x y = decide (x > y) := rfl
@[simp] theorem cmpIS_geq (x y : Int) : cmpIS .geq x y = decide (x ≥ y) := rfl
@[simp] theorem cmpSS_eql (x y : List UInt8) : cmpSS .eql x y = (x == y) := rfl
@[simp] theorem cmpSS_neq (x y : List UInt8) : cmpSS .neq x y = (x != y) := rfl
@[simp] theorem cmpSS_lss (x y : List UInt8) : cmpSS .lss x y = Op.bytesLess x y := rfl
@[simp] theorem cmpSS_gtr (x y : List UInt8) : cmpSS .gtr x y = !(Op.bytesLess x y || x == y) := rfl
@[simp] theorem cmpSS_leq (x y : List UInt8) : cmpSS .leq x y = (Op.bytesLess x y || x == y) := rfl
@[simp] theorem cmpSS_geq (x y : List UInt8) : cmpSS .geq x y = !(Op.bytesLess x y) := rfl
theorem lt_t {x y : Int} (h : std.cmp .lss x y = true) : x < y := by
  have h : cmpIS .lss x y = true := h
  simp at h; omega
theorem lt_f {x y : Int} (h : std.cmp .lss x y = false) : y ≤ x := by
  have h : cmpIS .lss x y = false := h
  simp at h; omega
theorem le_t {x y : Int} (h : std.cmp .leq x y = true) : x ≤ y := by
  have h : cmpIS .leq x y = true := h
  simp at h; omega
theorem le_f {x y : Int} (h : std.cmp .leq x y = false) : y < x := by
  have h : cmpIS .leq x y = false := h
  simp at h; omega
theorem gt_t {x y : Int} (h : std.cmp .gtr x y = true) : y < x := by
  have h : cmpIS .gtr x y = true := h
  simp at h; omega
theorem gt_f {x y : Int} (h : std.cmp .gtr x y = false) : x ≤ y := by
  have h : cmpIS .gtr x y = false := h
  simp at h; omega
theorem ge_t {x y : Int} (h : std.cmp .geq x y = true) : y ≤ x := by
  have h : cmpIS .geq x y = true := h
  simp at h; omega
theorem ge_f {x y : Int} (h : std.cmp .geq x y = false) : x < y := by
  have h : cmpIS .geq x y = false := h
  simp at h; omega
theorem eq_t {x y : Int} (h : std.cmp .eql x y = true) : x = y := by
  have h : cmpIS .eql x y = true := h
  simp at h; omega
theorem eq_f {x y : Int} (h : std.cmp .eql x y = false) : x ≠ y := by
  have h : cmpIS .eql x y = false := h
  simp at h; omega
theorem ne_t {x y : Int} (h : std.cmp .neq x y = true) : x ≠ y := by
  have h : cmpIS .neq x y = true := h
  simp at h; omega
theorem ne_f {x y : Int} (h : std.cmp .neq x y = false) : x = y := by
  have h : cmpIS .neq x y = false := h
  simp at h; omega
theorem seq_t {x y : List UInt8} (h : std.cmpS .eql x y = true) : x = y := by
  have h : cmpSS .eql x y = true := h
  simpa using h
theorem seq_f {x y : List UInt8} (h : std.cmpS .eql x y = false) : x ≠ y := by
  have h : cmpSS .eql x y = false := h
  simpa using h
theorem sne_t {x y : List UInt8} (h : std.cmpS .neq x y = true) : x ≠ y := by
  have h : cmpSS .neq x y = true := h
  simpa using h
theorem sne_f {x y : List UInt8} (h : std.cmpS .neq x y = false) : x = y := by
  have h : cmpSS .neq x y = false := h
  simpa using h
end
end Go.Fw

/- Regions that draw their order, of which a first part only reads and the rest stands in one order. Plain theorems, no condition. -/
set_option linter.unusedVariables false
set_option linter.unusedSimpArgs false
namespace Go.Fw
section
variable {P : Program} {ops : Array Oper} {md : Region.Mode} {C : World → Prop}
def anyLQ (P : Program) (md : Region.Mode) (ops : Array Oper) (C : World → Prop) (n : Nat) (L : Array Bool → Act → Prop) : Nat → Array Bool → Act → Prop
  | 0, listed, a => L listed a
  | f + 1, listed, a => Region.ready md ops listed ≠ [] ∧ ∀ i ∈ Region.ready md ops listed, i < n ∧ qOp P ops C i (anyLQ P md ops C n L f (listed.setIfInBounds i true)) a
theorem any_of_headQ {n g : Nat} {L : Array Bool → Act → Prop} {Q' : Exit → Act → World → Prop} (hL : ∀ listed a w, C w → L listed a → wpAny P md ops Q' g listed a w) :
    ∀ (f : Nat) (listed : Array Bool) (a : Act) (w : World), C w → anyLQ P md ops C n L f listed a → wpAny P md ops Q' (f + g) listed a w
  | 0, listed, a, w, hw, h => by rw [Nat.zero_add]; exact hL _ _ _ hw h
  | f + 1, listed, a, w, hw, h => by
    rw [show f + 1 + g = (f + g) + 1 by omega]
    exact ⟨fun h0 => absurd h0 h.1, fun i hi => wpOp_of_qOp hw (fun a' w' hw' h' => any_of_headQ hL f _ a' w' hw' h') (h.2 i hi).2⟩
theorem anyLQ_first {n i : Nat} {oi : Oper} {v : Value} {L : Array Bool → Act → Prop} (hi : ops[i]? = some oi) (hsel : ∀ (j : Nat) (o : Oper) cs b, ops[j]? = some o → o.op ≠ .select cs b)
    (hs : Region.sinkB md ops n = true) (hc : Region.chainB md ops n = true) (hn : n < ops.size) (hin : i < n) (hdone : ∀ listed a, L listed a → ∀ j ∈ Region.ready md ops listed, n ≤ j) :
    ∀ (f : Nat) (listed : Array Bool) (a : Act), HeadInv md ops n listed →
      (∀ j oj, ops[j]? = some oj → j ≠ i → listed.getD j true = false → (∀ e ∈ oj.after, Region.binds md e = true → e.on ≠ i) → oi.apart ops oj = true) →
      i ∈ Region.ready md ops listed → YieldsIn P ops C oi v a →
      anyLQ P md ops C n L f (listed.setIfInBounds i true) (a.put oi.dst v) → anyLQ P md ops C n L (f + 1) listed a := by
  intro f
  induction f with
  | zero =>
    intro listed a inv _ hr hy H
    have hun := (mem_ready.1 hr).1
    refine ⟨fun h => (by rw [h] at hr; cases hr), fun j hj => ?_⟩
    have hjn : j < n := (Nat.lt_or_ge j n).elim id fun h => absurd hj (tail_waits hs hc hn inv _ i rfl hin hun j h)
    refine ⟨hjn, ?_⟩
    by_cases hji : j = i
    · subst hji; exact hy.qOp hi H
    · have := hdone _ _ H j (ready_mono hj hji)
      omega
  | succ f ih =>
    intro listed a inv hfree hr hy H
    have hun := (mem_ready.1 hr).1
    refine ⟨fun h => (by rw [h] at hr; cases hr), fun j hj => ?_⟩
    have hjn : j < n := (Nat.lt_or_ge j n).elim id fun h => absurd hj (tail_waits hs hc hn inv _ i rfl hin hun j h)
    refine ⟨hjn, ?_⟩
    by_cases hji : j = i
    · subst hji; exact hy.qOp hi H
    · have h1 := (H.2 j (ready_mono hj hji)).2
      obtain ⟨hjun, oj, hoj, hall⟩ := mem_ready.1 hj
      have hnot : ∀ e ∈ oj.after, Region.binds md e = true → e.on ≠ i := fun e he hb heq => by
        have h1 := hall e he hb
        rw [heq, getD_both hun] at h1
        cases h1
      have h2 := qOp_put hoj (hfree j oj hoj hji hjun hnot) (fun cs b => hsel i oi cs b hi) (fun cs b => hsel j oj cs b hoj) hy h1
      have hfree' : ∀ k ok, ops[k]? = some ok → k ≠ i → (listed.setIfInBounds j true).getD k true = false →
          (∀ e ∈ ok.after, Region.binds md e = true → e.on ≠ i) → oi.apart ops ok = true := fun k ok hk hki hun hno => by
        refine hfree k ok hk hki ?_ hno
        by_cases hjk : j = k
        · subst hjk; exact hjun
        · rw [getD_set_ne true hjk] at hun; exact hun
      refine qOp_mono (fun a' h3 => ih (listed.setIfInBounds j true) a' (inv.set hj hjn) hfree' (ready_mono hr (Ne.symm hji)) h3.1 ?_) h2
      rw [Array.setIfInBounds_comm _ _ hji]
      exact h3.2
theorem anyLQ_lex {n g : Nat} {Lq : Act → Prop} (hsel : Region.noSelect ops = true) (hs : Region.sinkB md ops n = true) (hc : Region.chainB md ops n = true) (hn : n < ops.size) :
    ∀ (l : List Oper) (k : Nat) (listed : Array Bool) (a : Act), (∀ j, j < l.length → l[j]? = ops[k + j]?) → k + l.length = n → HeadInv md ops n listed →
    Region.lexHead md ops g l.length k listed = true → wpQuiet P ops C Lq l a →
    anyLQ P md ops C n (fun listed' a' => Region.seqB md ops g n listed' = true ∧ Lq a') l.length listed a
  | [], k, listed, a, _, hk, _, hB, h => by
    have : k = n := by simpa using hk
    subst this
    exact ⟨by simpa [Region.lexHead] using hB, h⟩
  | o :: l, k, listed, a, hl, hk, inv, hB, h => by
    have h0 : ops[k]? = some o := by simpa using (hl 0 (by simp)).symm
    simp only [List.length_cons, Region.lexHead, Bool.and_eq_true] at hB
    obtain ⟨⟨hr, hf⟩, hB'⟩ := hB
    have hkn : k < n := by simp only [List.length_cons] at hk; omega
    have hr' : k ∈ Region.ready md ops listed := by simpa using hr
    have hst : qOp P ops C k (wpQuiet P ops C Lq l) a := by unfold qOp; simp only [h0]; exact h
    obtain ⟨v, hy, hK⟩ := yieldsIn_of_qOp h0 hst
    exact anyLQ_first h0 (Region.noSelect_spec hsel) hs hc hn hkn (fun listed' a' hL => seqB_ready hL.1) l.length listed a inv (Region.free_spec h0 hf) hr' hy
      (anyLQ_lex hsel hs hc hn l (k + 1) _ _ (fun j hj => by have := hl (j + 1) (by simp; omega); simpa [Nat.add_assoc, Nat.add_comm 1 j] using this) (by simp only [List.length_cons] at hk; omega) (inv.set hr' hkn) hB' hK)
theorem wp_region_quiet_tail {id : Nat} {Q : Exit → Act → World → Prop} {a : Act} {w : World} {l : List Oper} (n : Nat) (hm : P.follows .mixedOrders = true) (hB : Region.lexTailB .any l.toArray n = true) (hC : C { w with drawn := w.drawn + 1 })
    (h : wpQuiet P l.toArray C (fun a' => ∀ w', C w' → wpList P l.toArray Q (l.drop n) a' w') (l.take n) a) : (Code.region id l.toArray true).wp P Q a w := by
  simp only [Region.lexTailB, Bool.and_eq_true, decide_eq_true_eq] at hB
  obtain ⟨⟨⟨⟨hsel, hn⟩, hs⟩, hc⟩, hlex⟩ := hB
  have hn' : n < l.length := by simpa using hn
  have htl : (l.take n).length = n := by simp; omega
  have hdl : (l.drop n).length = l.toArray.size - n := by simp
  have inv0 : HeadInv .any l.toArray n (Array.replicate l.toArray.size false) :=
    ⟨by simp, fun j oj _ hl => (by rw [getD_replicate_false] at hl; cases hl), fun t _ ht => getD_in (by simpa using ht) (getD_replicate_false _ _)⟩
  have H := anyLQ_lex (md := .any) (g := l.toArray.size - n) hsel hs hc hn (l.take n) 0 _ a (fun j hj => by
    have hj' : j < n := by rw [htl] at hj; exact hj
    simp [hj']) (by simpa using htl) inv0 (by rw [htl]; exact hlex) h
  refine wp_region_any hm ?_
  have := any_of_headQ (Q' := Q) (g := l.toArray.size - n) (fun listed a' w' hw' hL => by
    have := wpAny_of_seq (md := .any) (Q' := Q) (l.drop n) n listed a' w' (fun j => by simp [List.getElem?_drop]) (by rw [hdl]; exact hL.1) (hL.2 w' hw')
    rwa [hdl] at this) _ _ _ _ hC H
  rw [htl, show n + (l.toArray.size - n) = l.toArray.size by omega] at this
  exact this
variable {T : Nat → Option TI} {S : State}
/-- A region that draws its order: n operations that only read, then the rest in one order. -/
theorem VC_tail (hT : TabOK P T) {Ω : Opq} (hΩ : Ω = std) (hm : P.follows .mixedOrders = true) (n : Nat) {id : Nat} {ops : Array Oper} {K : Exit → State → Prop} (hB : Region.lexTailB .any ops n = true)
    (h : vQs Ω P T ops.toList (ops.toList.take n) S fun S' => vOps Ω P T ops.toList none (ops.toList.drop n) S' (K .normal)) : VC P (.region id ops true) S K := by
  subst hΩ
  intro E a w hs
  have hops : ops = ops.toList.toArray := by simp
  rw [hops] at hB ⊢
  refine wp_region_quiet_tail (C := fun w' => Go.RowKit.Below w.heap.size w w') n hm hB ⟨rfl, rfl, rfl, Nat.le_refl _, fun _ _ => rfl⟩ ?_
  refine vQs_ok (E := E) (w := w) hT ops.toList (fun _ => Iff.rfl) (fun a' S' hs' hK w' hw' => ?_) (ops.toList.take n) S h a hs
  obtain ⟨hd, G, gs, hi⟩ := hs'
  exact vOps_ok hT ops.toList (ops.toList.drop n) none S' K hK E a' w' ⟨hd, G, gs, hi.below hw' (fun _ h => h) (fun _ h => .inl h) (fun b h => Nat.lt_of_lt_of_le (hi.glt b h) hw'.size)⟩
end
end Go.Fw

/- Calls that write into what they are handed. Plain theorems, no condition. -/
set_option linter.unusedVariables false
set_option linter.unusedSimpArgs false
namespace Go.Fw

/-- A contract of a function that may write into what it is handed as held alone: told 'outs' afterwards. -/
structure MCtr (P : Program) (g : Nat) (args : List A) (x : A) (outs : List A) : Prop where
  enter : Enter P g
  run : ∀ (w : World) (G : Nat → Prop) (vs : List Value) (F : List Nat), (∀ b, G b → b < w.heap.size) → F.Nodup → (∀ b ∈ F, ¬ G b) → RelL w G args vs F → Calls P g vs.toArray w (fun e w' => ∃ v Fx Fo, e = .returned v ∧
    (w'.os = w.os ∧ w'.tape = w.tape ∧ w'.output = w.output ∧ w.heap.size ≤ w'.heap.size ∧ ∀ b, b < w.heap.size → b ∉ F → w'.heap[b]? = w.heap[b]?) ∧
    (Fx ++ Fo).Nodup ∧ (∀ b ∈ Fx ++ Fo, b ∈ F ∨ w.heap.size ≤ b) ∧ Rel w' (fun b => (G b ∨ (w.heap.size ≤ b ∧ b < w'.heap.size)) ∧ b ∉ Fx ++ Fo) x v Fx ∧
    RelL w' (fun b => (G b ∨ (w.heap.size ≤ b ∧ b < w'.heap.size)) ∧ b ∉ Fx ++ Fo) outs vs Fo)

mutual
inductive Mut (S : State) : A → A → A → List (Nat × List A) → Prop
  | row {r len : Nat} {row : Row} {xs' : List A} (hr : rowAt S.rows r = some row) (hlk : row.lk = false) (hl : len = row.xs.length) (hl' : xs'.length = row.xs.length) : Mut S (.vw r 0 len) (.sl true row.n row.xs) (.sl true row.n xs') [(r, xs')]
  | data {x : A} (hd : isData x = true) (hn : noOwn x = true) : Mut S x x x []
  | agg {xs ys zs : List A} {l : List (Nat × List A)} (h : MutL S xs ys zs l) : Mut S (.agg xs) (.agg ys) (.agg zs) l
inductive MutL (S : State) : List A → List A → List A → List (Nat × List A) → Prop
  | nil : MutL S [] [] [] []
  | cons {x y z : A} {xs ys zs : List A} {l ls : List (Nat × List A)} (h : Mut S x y z l) (hl : MutL S xs ys zs ls) : MutL S (x :: xs) (y :: ys) (z :: zs) (l ++ ls)
end
def blocksOf (gs : Gh) (l : List (Nat × List A)) : List Nat := l.flatMap fun p => gs.all p.1
theorem blocksOf_append (gs : Gh) (l ls : List (Nat × List A)) : blocksOf gs (l ++ ls) = blocksOf gs l ++ blocksOf gs ls := by simp [blocksOf]
theorem blocksOf_congr {gs gs' : Gh} : ∀ {l : List (Nat × List A)}, (∀ p ∈ l, gs p.1 = gs' p.1) → blocksOf gs l = blocksOf gs' l
  | [], _ => rfl
  | p :: l, h => by
    have ih := blocksOf_congr (l := l) fun q hq => h q (by simp [hq])
    simp only [blocksOf, List.flatMap_cons] at ih ⊢
    rw [ih]
    simp only [Gh.all]; rw [h p (by simp)]
def mutRows : List (Nat × List A) → List (Option Row) → List (Option Row)
  | [], rows => rows
  | (r, xs) :: l, rows => mutRows l (rows.set r ((rowAt rows r).map fun row => { row with xs := xs }))
def State.mut (S : State) (l : List (Nat × List A)) : State := { S with rows := mutRows l S.rows }

theorem rowAt_set' (rows : List (Option Row)) (q : Nat) (f : Row → Row) (r : Nat) : rowAt (rows.set q ((rowAt rows q).map f)) r = if r = q then (rowAt rows q).map f else rowAt rows r := by
  by_cases hq : q < rows.length
  · rw [rowAt_set _ _ _ _ hq]
  · rw [rowAt_none (by omega : rows.length ≤ q)]
    rw [List.set_eq_of_length_le (by omega)]
    split
    · rename_i h; subst h; rw [rowAt_none (by omega)]; rfl
    · rfl
theorem rowAt_mut_not : ∀ (l : List (Nat × List A)) (rows : List (Option Row)) (r : Nat), r ∉ l.map (·.1) → rowAt (mutRows l rows) r = rowAt rows r
  | [], rows, r, _ => rfl
  | (q, xs) :: l, rows, r, h => by
    simp only [List.map_cons, List.mem_cons, not_or] at h
    rw [mutRows, rowAt_mut_not l _ r h.2, rowAt_set', if_neg h.1]
theorem rowAt_mut : ∀ (l : List (Nat × List A)) (rows : List (Option Row)) (r : Nat) (xs : List A), (l.map (·.1)).Nodup → (r, xs) ∈ l → rowAt (mutRows l rows) r = (rowAt rows r).map fun row => { row with xs := xs }
  | [], rows, r, xs, _, h => by simp at h
  | (q, ys) :: l, rows, r, xs, hn, h => by
    simp only [List.map_cons, List.nodup_cons] at hn
    rw [mutRows]
    rcases List.mem_cons.1 h with h2 | h2
    · simp only [Prod.mk.injEq] at h2
      obtain ⟨rfl, rfl⟩ := h2
      rw [rowAt_mut_not l _ r hn.1, rowAt_set', if_pos rfl]
    · have hne : r ≠ q := fun e => hn.1 (by rw [← e]; exact List.mem_map.2 ⟨(r, xs), h2, rfl⟩)
      rw [rowAt_mut l _ r xs hn.2 h2, rowAt_set', if_neg hne]
theorem mutRows_length : ∀ (l : List (Nat × List A)) (rows : List (Option Row)), (mutRows l rows).length = rows.length
  | [], rows => rfl
  | (q, xs) :: l, rows => by rw [mutRows, mutRows_length l]; simp

section
variable {P : Program} {E : Env} {G : Nat → Prop} {gs : Gh} {S : State} {w : World} {tmps : Array Value}

/-- What is handed over. -/
theorem mut_give (hi : Inv E G gs S tmps w) {x y z : A} {l : List (Nat × List A)} (h : Mut S x y z l) : ∀ {v : Value}, TRel w G S.rows gs x v [] → Rel w G y v (blocksOf gs l) := by
  refine Mut.rec (motive_1 := fun x y z l _ => ∀ {v : Value}, TRel w G S.rows gs x v [] → Rel w G y v (blocksOf gs l))
    (motive_2 := fun xs ys zs l _ => ∀ {vs : List Value}, TRelL w G S.rows gs xs vs [] → RelL w G ys vs (blocksOf gs l)) ?_ ?_ ?_ ?_ ?_ h
  · intro r len row xs' hr hlk hl hl' v hx
    have hb : blocksOf gs [(r, xs')] = gs.all r := by simp [blocksOf]
    rw [hb]
    rcases vw_inv hx with ⟨row', k, cap, cur, e, b, hr', hob, g1, g2, g3, g4, g5, g6, hv⟩ | ⟨row', hr', hob, hx0, _, hlen, hv⟩
    · rw [hr] at hr'
      obtain rfl := Option.some.inj hr'
      have hrr := hi.row r row hr
      rw [hob] at hrr
      obtain ⟨cur', e', cap', h1, h2, h3, h4, h5, h6, h7⟩ := hrr.ex
      rw [g2] at h1
      simp only [Option.some.injEq, Obj.cells.injEq] at h1
      obtain ⟨rfl, rfl, _⟩ := h1
      unfold CellsRel at h7
      rw [if_neg (by simp [hlk])] at h7
      have hk : k = 0 := by rcases g6 with g | g <;> omega
      subst hk
      rw [hv, show gs.all r = b :: (gs r).2 by simp [Gh.all, hob], hl]
      exact .ow g2 h5 rfl rfl h7 (by omega) (by omega) g3 h6
    · rw [hr] at hr'
      obtain rfl := Option.some.inj hr'
      have hrr := hi.row r row hr
      rw [hob] at hrr
      rw [hv, show gs.all r = [] by simp [Gh.all, hob, hrr.2], hx0]
      exact .nils
  · intro x hd hn v hx
    exact hx.data hd
  · intro xs ys zs l h ih v hx
    obtain ⟨cs, rfl, hl⟩ := agg_inv hx
    have := Rel.agg (ih hl)
    simpa using this
  · intro vs hx
    generalize hF : ([] : List Nat) = F at hx
    cases hx
    exact .nil
  · intro x y z xs ys zs l ls h hl ih ih' vs hx
    generalize hF : ([] : List Nat) = F at hx
    cases hx with
    | cons h1 h2 =>
      rename_i v F1 vs Fs
      have hF' : F1 = [] ∧ Fs = [] := by simpa using hF.symm
      obtain ⟨rfl, rfl⟩ := hF'
      rw [blocksOf_append]
      exact .cons (ih h1) (ih' h2)
theorem mut_giveL (hi : Inv E G gs S tmps w) {xs ys zs : List A} {l : List (Nat × List A)} (h : MutL S xs ys zs l) {vs : List Value} (hx : TRelL w G S.rows gs xs vs []) : RelL w G ys vs (blocksOf gs l) := by
  have := mut_give hi (.agg h) (.agg hx)
  cases this with | agg h => simpa using h

/-- What comes back of it. -/
structure Back (S : State) (w w' : World) (G' : Nat → Prop) (gs gs' : Gh) (l : List (Nat × List A)) : Prop where
  row : ∀ r xs, (r, xs) ∈ l → ∃ row, rowAt S.rows r = some row ∧ row.lk = false ∧ xs.length = row.xs.length ∧ (gs' r).1 = (gs r).1 ∧ (∀ rows'' gs'', RowRel w' G' rows'' gs'' { row with xs := xs } (gs' r).1 (gs' r).2) ∧
    ∀ b cur e, (gs r).1 = some b → w.heap[b]? = some (.cells cur e (0, 0)) → ∃ cur' e', w'.heap[b]? = some (.cells cur' e' (0, 0)) ∧ cur'.size = cur.size
  frame : ∀ r, r ∉ l.map (·.1) → gs' r = gs r
theorem mut_back {w' : World} {G' : Nat → Prop} {x y z : A} {l : List (Nat × List A)} (h : Mut S x y z l) : ∀ {v : Value} {F : List Nat}, (l.map (·.1)).Nodup → TRel w G S.rows gs x v [] → Rel w' G' z v F → ∃ gs', Back S w w' G' gs gs' l ∧ F = blocksOf gs' l := by
  refine Mut.rec (motive_1 := fun x y z l _ => ∀ {v : Value} {F : List Nat}, (l.map (·.1)).Nodup → TRel w G S.rows gs x v [] → Rel w' G' z v F → ∃ gs', Back S w w' G' gs gs' l ∧ F = blocksOf gs' l)
    (motive_2 := fun xs ys zs l _ => ∀ {vs : List Value} {F : List Nat}, (l.map (·.1)).Nodup → TRelL w G S.rows gs xs vs [] → RelL w' G' zs vs F → ∃ gs', Back S w w' G' gs gs' l ∧ F = blocksOf gs' l) ?_ ?_ ?_ ?_ ?_ h
  · intro r len row xs' hr hlk hl hl' v F hnd hx hz
    rcases vw_inv hx with ⟨row', k, cap, cur, e, b, hr', hob, g1, g2, g3, g4, g5, g6, hv⟩ | ⟨row', hr', hob, hx0, _, hlen, hv⟩
    · rw [hr] at hr'
      obtain rfl := Option.some.inj hr'
      have hk : k = 0 := by rcases g6 with g | g <;> omega
      subst hk
      subst hv
      cases hz with
      | ow hh hw hlen hc hl2 hcap hm hs hv0 =>
        rename_i cur' e' cs F'
        refine ⟨gs.add r (some b) F', ⟨fun r2 xs2 h2 => ?_, fun r2 h2 => ?_⟩, by simp [blocksOf, Gh.all, Gh.add]⟩
        · simp only [List.mem_singleton, Prod.mk.injEq] at h2
          obtain ⟨rfl, rfl⟩ := h2
          have hself : (gs.add r2 (some b) F') r2 = (some b, F') := by simp [Gh.add]
          refine ⟨row, hr, hlk, hl', by rw [hself]; exact hob.symm, fun rows'' gs'' => ?_, fun b2 cur2 e2 hb2 hh2 => ?_⟩
          · rw [hself]
            refine ⟨cur', e', cap, hh, by simpa using hs, by show xs2.length ≤ cap; omega, by omega, hw, ?_, ?_⟩
            · show ∀ v ∈ cur'.toList.take (xs2.length * row.n), _
              rw [← hlen, ← hc]; exact hv0
            · show CellsRel row.lk w' G' rows'' gs'' (flat xs2) (cur'.toList.take (xs2.length * row.n)) F'
              unfold CellsRel
              rw [if_neg (by simp [hlk]), ← hlen, ← hc]; exact hl2
          · rw [hob] at hb2
            obtain rfl := Option.some.inj hb2
            rw [g2] at hh2
            simp only [Option.some.injEq, Obj.cells.injEq] at hh2
            obtain ⟨rfl, rfl, _⟩ := hh2
            exact ⟨cur', e', hh, by rw [hs, g3]; simp⟩
        · have : r2 ≠ r := by simpa using h2
          simp [Gh.add, this]
    · rw [hr] at hr'
      obtain rfl := Option.some.inj hr'
      subst hv
      have h0 : xs' = [] := List.eq_nil_of_length_eq_zero (by rw [hl', hx0]; rfl)
      subst h0
      cases hz
      refine ⟨gs.add r none [], ⟨fun r2 xs2 h2 => ?_, fun r2 h2 => ?_⟩, by simp [blocksOf, Gh.all, Gh.add]⟩
      · simp only [List.mem_singleton, Prod.mk.injEq] at h2
        obtain ⟨rfl, rfl⟩ := h2
        have hself : (gs.add r2 none []) r2 = (none, []) := by simp [Gh.add]
        exact ⟨row, hr, hlk, hl', by rw [hself]; exact hob.symm, fun rows'' gs'' => by rw [hself]; exact ⟨rfl, rfl⟩, fun b2 cur2 e2 hb2 => by rw [hob] at hb2; simp at hb2⟩
      · have : r2 ≠ r := by simpa using h2
        simp [Gh.add, this]
  · intro x hd hn v F hnd hx hz
    have := hz.noOwn hn
    subst this
    exact ⟨gs, ⟨fun r xs h => by simp at h, fun r h => rfl⟩, rfl⟩
  · intro xs ys zs l h ih v F hnd hx hz
    obtain ⟨cs, rfl, hl⟩ := agg_inv hx
    cases hz with
    | agg hz => exact ih hnd (by simpa using hl) hz
  · intro vs F hnd hx hz
    cases hz
    exact ⟨gs, ⟨fun r xs h => by simp at h, fun r h => rfl⟩, rfl⟩
  · intro x y z xs ys zs l ls h hl ih ih' vs F hnd hx hz
    generalize hF : ([] : List Nat) = F0 at hx
    cases hx with
    | cons h1 h2 =>
      rename_i v F1 vs Fs
      have hF' : F1 = [] ∧ Fs = [] := by simpa using hF.symm
      obtain ⟨rfl, rfl⟩ := hF'
      cases hz with
      | cons z1 z2 =>
        rename_i Fa Fb
        rw [List.map_append, List.nodup_append] at hnd
        obtain ⟨n1, n2, n3⟩ := hnd
        obtain ⟨gs1, b1, rfl⟩ := ih n1 h1 z1
        obtain ⟨gs2, b2, rfl⟩ := ih' n2 h2 z2
        let gs' : Gh := fun r => if r ∈ l.map (·.1) then gs1 r else gs2 r
        have e1 : ∀ r, r ∈ l.map (·.1) → gs' r = gs1 r := fun r h => if_pos h
        have e2 : ∀ r, r ∈ ls.map (·.1) → gs' r = gs2 r := fun r h => if_neg fun h' => n3 r h' r h rfl
        refine ⟨gs', ⟨fun r xs hm => ?_, fun r hm => ?_⟩, ?_⟩
        · rcases List.mem_append.1 hm with hm | hm
          · rw [e1 r (List.mem_map.2 ⟨_, hm, rfl⟩)]; exact b1.row r xs hm
          · rw [e2 r (List.mem_map.2 ⟨_, hm, rfl⟩)]; exact b2.row r xs hm
        · rw [List.map_append, List.mem_append, not_or] at hm
          show (if r ∈ l.map (·.1) then gs1 r else gs2 r) = gs r
          rw [if_neg hm.1]; exact b2.frame r hm.2
        · rw [blocksOf_append]
          have f1 : blocksOf gs' l = blocksOf gs1 l := blocksOf_congr fun p hp => e1 p.1 (List.mem_map.2 ⟨p, hp, rfl⟩)
          have f2 : blocksOf gs' ls = blocksOf gs2 ls := blocksOf_congr fun p hp => e2 p.1 (List.mem_map.2 ⟨p, hp, rfl⟩)
          rw [f1, f2]
theorem mut_backL {w' : World} {G' : Nat → Prop} {xs ys zs : List A} {l : List (Nat × List A)} (h : MutL S xs ys zs l) {vs : List Value} {F : List Nat} (hnd : (l.map (·.1)).Nodup) (hx : TRelL w G S.rows gs xs vs []) (hz : RelL w' G' zs vs F) :
    ∃ gs', Back S w w' G' gs gs' l ∧ F = blocksOf gs' l := mut_back (.agg h) hnd (.agg hx) (.agg hz)
theorem mem_blocksOf {gs : Gh} {l : List (Nat × List A)} {b : Nat} : b ∈ blocksOf gs l ↔ ∃ p ∈ l, b ∈ gs.all p.1 := by simp [blocksOf]
theorem mut_rows {x y z : A} {l : List (Nat × List A)} (h : Mut S x y z l) : ∀ p ∈ l, ∃ row, rowAt S.rows p.1 = some row := by
  refine Mut.rec (motive_1 := fun x y z l _ => ∀ p ∈ l, ∃ row, rowAt S.rows p.1 = some row) (motive_2 := fun xs ys zs l _ => ∀ p ∈ l, ∃ row, rowAt S.rows p.1 = some row) ?_ ?_ ?_ ?_ ?_ h
  · intro r len row xs' hr hlk hl hl' p hp
    simp only [List.mem_singleton] at hp
    subst hp
    exact ⟨row, hr⟩
  · intros; simp_all
  · intro xs ys zs l h ih; exact ih
  · intros; simp_all
  · intro x y z xs ys zs l ls h hl ih ih' p hp
    rcases List.mem_append.1 hp with hp | hp
    · exact ih p hp
    · exact ih' p hp
theorem blocks_sub {gs : Gh} : ∀ {l : List (Nat × List A)} {p : Nat × List A}, p ∈ l → (gs.all p.1).Sublist (blocksOf gs l)
  | q :: l, p, h => by
    show (gs.all p.1).Sublist (gs.all q.1 ++ blocksOf gs l)
    rcases List.mem_cons.1 h with rfl | h
    · exact List.sublist_append_left _ _
    · exact (blocks_sub h).trans (List.sublist_append_right _ _)
/-- Two rows of the list have no block in common. -/
theorem blocks_apart {gs : Gh} : ∀ {l : List (Nat × List A)} {p q : Nat × List A}, (blocksOf gs l).Nodup → p ∈ l → q ∈ l → p.1 ≠ q.1 → ∀ b ∈ gs.all p.1, b ∉ gs.all q.1
  | x :: l, p, q, hn, hp, hq, hne, b, hb, hb2 => by
    have hn' : (gs.all x.1 ++ blocksOf gs l).Nodup := hn
    rw [List.nodup_append] at hn'
    obtain ⟨h1, h2, h3⟩ := hn'
    rcases List.mem_cons.1 hp with hp1 | hp1
    · rcases List.mem_cons.1 hq with hq1 | hq1
      · subst hp1; subst hq1; exact hne rfl
      · subst hp1; exact h3 b hb b (mem_blocksOf.2 ⟨_, hq1, hb2⟩) rfl
    · rcases List.mem_cons.1 hq with hq1 | hq1
      · subst hq1; exact h3 b hb2 b (mem_blocksOf.2 ⟨_, hp1, hb⟩) rfl
      · exact blocks_apart h2 hp1 hq1 hne b hb hb2
theorem blocks_nodup (hi : Inv E G gs S tmps w) : ∀ {l : List (Nat × List A)}, (l.map (·.1)).Nodup → (∀ p ∈ l, ∃ row, rowAt S.rows p.1 = some row) → (blocksOf gs l).Nodup
  | [], _, _ => by simp [blocksOf]
  | p :: l, hn, hr => by
    simp only [List.map_cons, List.nodup_cons] at hn
    obtain ⟨row, hrow⟩ := hr p (by simp)
    have ih := blocks_nodup hi hn.2 fun q hq => hr q (by simp [hq])
    show (gs.all p.1 ++ blocksOf gs l).Nodup
    rw [List.nodup_append]
    refine ⟨hi.nod p.1 row hrow, ih, fun a ha b hb hab => ?_⟩
    subst hab
    obtain ⟨q, hq, hb⟩ := mem_blocksOf.1 hb
    obtain ⟨row', hrow'⟩ := hr q (by simp [hq])
    exact hi.dis p.1 q.1 row row' hrow hrow' (fun e => hn.1 (by rw [e]; exact List.mem_map.2 ⟨q, hq, rfl⟩)) a ha hb
theorem CallOK_mut {g k : Nat} {args ys outs : List A} {x : A} {l : List (Nat × List A)} {K : A → State → Prop} (hc : MCtr P g ys x outs) (hm : MutL S args ys outs l) (hnd : (l.map (·.1)).Nodup)
    (hno : noOwn (rootA k (S.mut l) x).1 = true) (hK : K (rootA k (S.mut l) x).1 (rootA k (S.mut l) x).2) : CallOK P g args S K := by
  refine ⟨hc.enter, fun E G gs tmps w vs hi hl => ?_⟩
  have hrows := mut_rows (.agg hm)
  have hFnd := blocks_nodup hi hnd hrows
  have hFown : ∀ b ∈ blocksOf gs l, ¬ G b ∧ (E.Fin b ∨ E.w0.heap.size ≤ b) ∧ b < w.heap.size := fun b hb => by
    obtain ⟨p, hp, hb⟩ := mem_blocksOf.1 hb
    obtain ⟨row, hr⟩ := hrows p hp
    obtain ⟨h1, h2⟩ := hi.own p.1 row hr b hb
    exact ⟨h1, h2, hi.block_lt hr b hb⟩
  have hFdis : ∀ r row, rowAt S.rows r = some row → r ∉ l.map (·.1) → ∀ b ∈ gs.all r, b ∉ blocksOf gs l := fun r row hr hn b hb hb2 => by
    obtain ⟨p, hp, hb2⟩ := mem_blocksOf.1 hb2
    obtain ⟨row', hr'⟩ := hrows p hp
    exact hi.dis r p.1 row row' hr hr' (fun e => hn (by rw [e]; exact List.mem_map.2 ⟨p, hp, rfl⟩)) b hb hb2
  refine Calls.mono (hc.run w G vs (blocksOf gs l) hi.glt hFnd (fun b hb => (hFown b hb).1) (mut_giveL hi hm hl)) ?_
  rintro e w' ⟨v, Fx, Fo, rfl, ⟨hos, htape, hout, hsize, hold⟩, hnd2, hmem, hx, ho⟩
  obtain ⟨gs', hb, rfl⟩ := mut_backL hm hnd hl ho
  have hGF : ∀ b, G b → b ∉ Fx ++ blocksOf gs' l := fun b h hF => by
    have := hi.glt b h
    rcases hmem b hF with h2 | h2
    · exact (hFown b h2).1 h
    · omega
  have hG : ∀ b, G b → ((G b ∨ (w.heap.size ≤ b ∧ b < w'.heap.size)) ∧ b ∉ Fx ++ blocksOf gs' l) ∧ w'.heap[b]? = w.heap[b]? := fun b h => ⟨⟨.inl h, hGF b h⟩, hold b (hi.glt b h) fun hF => (hFown b hF).1 h⟩
  have hrow1 : ∀ r xs, (r, xs) ∈ l → rowAt (S.mut l).rows r = (rowAt S.rows r).map fun row => { row with xs := xs } := fun r xs h => rowAt_mut l S.rows r xs hnd h
  have hrow2 : ∀ r, r ∉ l.map (·.1) → rowAt (S.mut l).rows r = rowAt S.rows r := fun r h => rowAt_mut_not l S.rows r h
  have hle : ∀ r, RowLe w w' S.rows (S.mut l).rows gs gs' r := fun r => by
    by_cases hr : r ∈ l.map (·.1)
    · obtain ⟨⟨r', xs⟩, hp, rfl⟩ := List.mem_map.1 hr
      obtain ⟨row, h1, h2, h3, h4, h5, h6⟩ := hb.row _ _ hp
      refine ⟨fun row' h => ?_⟩
      dsimp only at h
      rw [h1] at h
      obtain rfl := Option.some.inj h
      exact ⟨{ row with xs := xs }, by rw [hrow1 _ _ hp, h1]; rfl, h4, rfl, h3, fun b cur e hb' hh => h6 b cur e hb' hh⟩
    · exact RowLe.refl_of fun row h => ⟨by rw [hrow2 r hr]; exact h, by rw [hb.frame r hr], fun b hob => hold b (hi.block_lt h b (by simp [Gh.all, hob])) (hFdis r row h hr b (by simp [Gh.all, hob]))⟩
  have hcase : ∀ r row', rowAt (S.mut l).rows r = some row' → (∃ xs row, (r, xs) ∈ l ∧ rowAt S.rows r = some row ∧ row' = { row with xs := xs }) ∨ (r ∉ l.map (·.1) ∧ rowAt S.rows r = some row') := fun r row' h => by
    by_cases hr : r ∈ l.map (·.1)
    · obtain ⟨⟨r', xs⟩, hp, rfl⟩ := List.mem_map.1 hr
      rw [hrow1 _ _ hp] at h
      obtain ⟨row, h1, _⟩ := hb.row _ _ hp
      rw [h1] at h
      exact .inl ⟨xs, row, hp, h1, (Option.some.inj h).symm⟩
    · rw [hrow2 r hr] at h; exact .inr ⟨hr, h⟩
  have hin : ∀ r xs, (r, xs) ∈ l → ∀ b ∈ gs'.all r, b ∈ blocksOf gs' l := fun r xs h b hb' => mem_blocksOf.2 ⟨_, h, hb'⟩
  rw [List.nodup_append] at hnd2
  obtain ⟨n1, n2, n3⟩ := hnd2
  have hltR : ∀ r row, rowAt S.rows r = some row → r ∉ l.map (·.1) → ∀ b ∈ gs.all r, b ∉ Fx ++ blocksOf gs' l := fun r row h hn b hb hF => by
    have := hi.block_lt h b hb
    rcases hmem b hF with h2 | h2
    · exact hFdis r row h hn b hb h2
    · omega
  have hi' : Inv E (fun b => (G b ∨ (w.heap.size ≤ b ∧ b < w'.heap.size)) ∧ b ∉ Fx ++ blocksOf gs' l) gs' (S.mut l) tmps w' := by
    refine ⟨fun b h hf => ?_, hos.trans hi.os, htape.trans hi.tape, hout.trans hi.output, Nat.le_trans hi.size hsize, hi.sz, fun b h => ⟨.inl (hi.gsub b h), hGF b (hi.gsub b h)⟩, fun b h => ?_, fun b h => ?_, fun r row' hr => ?_,
      fun r row' hr => ?_, fun r row' hr b hb' => ?_, fun r r' row row' hr hr' hne b hb1 hb2 => ?_, fun i => (hi.tmp i).step hG hle (by simp)⟩
    · rw [hold b (Nat.lt_of_lt_of_le h hi.size) fun hF => ?_]
      · exact hi.keep b h hf
      · rcases (hFown b hF).2.1 with h2 | h2
        · exact hf h2
        · omega
    · rcases h.1 with h | h
      · exact hi.gnew b h
      · exact .inr (Nat.le_trans hi.size h.1)
    · rcases h.1 with h | h
      · exact Nat.lt_of_lt_of_le (hi.glt b h) hsize
      · exact h.2
    · rcases hcase r row' hr with ⟨xs, row, hp, h1, rfl⟩ | ⟨hn, h1⟩
      · obtain ⟨row2, h2, _, _, _, h6, _⟩ := hb.row _ _ hp
        rw [h1] at h2
        obtain rfl := Option.some.inj h2
        exact h6 _ _
      · rw [hb.frame r hn]
        exact (hi.row r row' h1).step hG hle fun c hc => hold c (hi.block_lt h1 c hc) (hFdis r row' h1 hn c hc)
    · rcases hcase r row' hr with ⟨xs, row, hp, h1, rfl⟩ | ⟨hn, h1⟩
      · exact n2.sublist (blocks_sub hp)
      · have := hi.nod r row' h1
        simpa [Gh.all, hb.frame r hn] using this
    · rcases hcase r row' hr with ⟨xs, row, hp, h1, rfl⟩ | ⟨hn, h1⟩
      · have hbl := hin r xs hp b hb'
        refine ⟨fun h => h.2 (by rw [List.mem_append]; exact .inr hbl), ?_⟩
        rcases hmem b (by rw [List.mem_append]; exact .inr hbl) with h2 | h2
        · exact (hFown b h2).2.1
        · exact .inr (Nat.le_trans hi.size h2)
      · have hb2 : b ∈ gs.all r := by simpa [Gh.all, hb.frame r hn] using hb'
        obtain ⟨g1, g2⟩ := hi.own r row' h1 b hb2
        refine ⟨fun h => ?_, g2⟩
        have := hi.block_lt h1 b hb2
        rcases h.1 with h | h
        · exact g1 h
        · omega
    · rcases hcase r row hr with ⟨xs, row1, hp, h1, rfl⟩ | ⟨hn, h1⟩
      · rcases hcase r' row' hr' with ⟨xs', row2, hp', h1', rfl⟩ | ⟨hn', h1'⟩
        · exact blocks_apart n2 hp hp' hne b hb1 hb2
        · exact hltR r' row' h1' hn' b (by simpa [Gh.all, hb.frame r' hn'] using hb2) (by rw [List.mem_append]; exact .inr (hin r xs hp b hb1))
      · rcases hcase r' row' hr' with ⟨xs', row2, hp', h1', rfl⟩ | ⟨hn', h1'⟩
        · exact hltR r row h1 hn b (by simpa [Gh.all, hb.frame r hn] using hb1) (by rw [List.mem_append]; exact .inr (hin r' xs' hp' b hb2))
        · exact hi.dis r r' row row' h1 h1' hne b (by simpa [Gh.all, hb.frame r hn] using hb1) (by simpa [Gh.all, hb.frame r' hn'] using hb2)
  have hR : Res E (fun b => (G b ∨ (w.heap.size ≤ b ∧ b < w'.heap.size)) ∧ b ∉ Fx ++ blocksOf gs' l) gs' (S.mut l).rows (Fx ++ []) := by
    rw [List.append_nil]
    refine ⟨n1, fun b hb' => ⟨fun h => h.2 (by rw [List.mem_append]; exact .inl hb'), ?_⟩, fun r row' hr b hb1 hb2 => ?_⟩
    · rcases hmem b (by rw [List.mem_append]; exact .inl hb') with h2 | h2
      · exact (hFown b h2).2.1
      · exact .inr (Nat.le_trans hi.size h2)
    · rcases hcase r row' hr with ⟨xs, row, hp, h1, rfl⟩ | ⟨hn, h1⟩
      · exact n3 b hb2 b (hin r xs hp b hb1) rfl
      · exact hltR r row' h1 hn b (by simpa [Gh.all, hb.frame r hn] using hb1) (by rw [List.mem_append]; exact .inl hb2)
  obtain ⟨gs2, h1, h2⟩ := rootA_ok k (S.mut l) gs' x v Fx [] hi' hR (fun b hb' => hx.lt b (by simpa using hb')) hx hno
  exact ⟨v, _, _, _, gs2, rfl, hK, h1.inv, h2⟩
end
end Go.Fw

/- Contracts of functions that write into what they are handed, from a walk. Plain theorems, no condition. -/
set_option linter.unusedVariables false
set_option linter.unusedSimpArgs false
namespace Go.Fw

structure FitLX (us ys : List A) : Prop where
  h : ∃ k, fitA.fitL k us ys
theorem FitLX.same {xs : List A} : FitLX xs xs := ⟨0, fits xs⟩
theorem FitLX.of {xs ys : List A} (h : xs = ys) : FitLX xs ys := h ▸ FitLX.same
def entryM (k N : Nat) (xs : List A) : State :=
  ⟨entryT 0 (rootA.rootL k ⟨[], N, []⟩ xs).1 ++ entryT N (rootA.rootL k ⟨[], N, []⟩ xs).1, N, (rootA.rootL k ⟨[], N, []⟩ xs).2.rows⟩
def vOutM (Ω : Opq) (T : Nat → Option TI) (N : Nat) (S : State) (rs : List ResultVar) (x : A) (outs : List A) : Prop :=
  if S.N = N then vRes T S rs fun zs => if (flat (zs ++ (List.range outs.length).map fun i => lk S.t (S.N + i))).all okCell then
    vStash Ω (flat (zs ++ (List.range outs.length).map fun i => lk S.t (S.N + i))).length S (flat (zs ++ (List.range outs.length).map fun i => lk S.t (S.N + i))) fun ys _ _ =>
      FitX (oneA ((regroup (zs ++ (List.range outs.length).map fun i => lk S.t (S.N + i)) ys).take zs.length)) x ∧ FitLX ((regroup (zs ++ (List.range outs.length).map fun i => lk S.t (S.N + i)) ys).drop zs.length) outs else False else False
def outM (Ω : Opq) (T : Nat → Option TI) (N : Nat) (rs : List ResultVar) (x : A) (outs : List A) : Exit → State → Prop
  | .normal, S | .ret, S => vOutM Ω T N S rs x outs
  | _, _ => False
theorem entryT_lk : ∀ (xs : List A) (t : List (Nat × A)) (i j : Nat), lk (entryT i xs ++ t) j = if i ≤ j ∧ j < i + xs.length then xs.getD (j - i) .un else lk t j
  | [], t, i, j => by simp [entryT]; omega
  | x :: xs, t, i, j => by
    simp only [entryT, List.cons_append, lk, entryT_lk xs t (i + 1) j]
    by_cases h : i = j
    · subst h; simp
    · rw [if_neg h]
      by_cases h2 : i + 1 ≤ j ∧ j < i + 1 + xs.length
      · obtain ⟨d, hd⟩ : ∃ d, j - i = d + 1 := ⟨j - i - 1, by omega⟩
        have : j - (i + 1) = d := by omega
        rw [if_pos h2, if_pos ⟨by omega, by simp; omega⟩, hd, this]; simp
      · rw [if_neg h2, if_neg (by simp; omega)]
section
variable {P : Program} {T : Nat → Option TI}
theorem TRelL.get' {G : Nat → Prop} {w : World} {rows : List (Option Row)} {gs : Gh} {xs : List A} {vs : List Value} (h : TRelL w G rows gs xs vs []) (i : Nat) (hi : i < xs.length) : TRel w G rows gs (xs.getD i .un) (vs.getD i undef) [] := by
  obtain ⟨v, h1, h2⟩ := h.get i xs[i] (List.getElem?_eq_getElem hi)
  rw [List.getD_eq_getElem?_getD, List.getD_eq_getElem?_getD, List.getElem?_eq_getElem hi, h1]
  exact h2
theorem MCtr.walk (hT : TabOK P T) {Ω : Opq} (hΩ : Ω = std) (k : Nat) {g : Nat} {c : Code} {N : Nat} {rs : List ResultVar} {xs : List A} {x : A} {outs : List A} (hf : FnAt P g c N rs) (hN : Nat.ble xs.length N = true)
    (hno : (rootA.rootL k ⟨[], N, []⟩ xs).1.all noOwn = true) (ho : outs.length = xs.length) (h : vC Ω P T c (entryM k N xs) (outM Ω T N rs x outs)) : MCtr P g xs x outs := by
  have hN := Nat.le_of_ble_eq_true hN
  obtain ⟨hen, fn, h1, h2, h3, h4⟩ := hf
  refine ⟨hen, fun w G vs F hG hFnd hFG hl => ?_⟩
  have hlen := hl.length
  have hFlt := hl.lt
  refine calls_of_wp h1 h2 ?_
  generalize htm : vs.toArray ++ Array.replicate (fn.ntmps - vs.toArray.size) undef = tm
  have htms : tm.size = N := by rw [← htm]; simp; omega
  have hinv0 : Inv ⟨w, G, (· ∈ F), fun i => vs.getD (i - N) undef⟩ G (fun _ => (none, [])) ⟨[], N, []⟩ tm w := by
    refine ⟨fun _ _ _ => rfl, rfl, rfl, rfl, Nat.le_refl _, htms, fun _ h => h, fun _ h => .inl h, hG, ?_, ?_, ?_, ?_, fun i => .un⟩
    · intro r row hr; simp [rowAt] at hr
    · intro r row hr; simp [rowAt] at hr
    · intro r row hr; simp [rowAt] at hr
    · intro r r' row row' hr; simp [rowAt] at hr
  have hres0 : Res ⟨w, G, (· ∈ F), fun i => vs.getD (i - N) undef⟩ G (fun _ => (none, [])) (State.rows ⟨[], N, []⟩) (F ++ []) := by
    rw [List.append_nil]
    exact ⟨hFnd, fun b hb => ⟨hFG b hb, .inl hb⟩, fun r row hr => by simp [rowAt] at hr⟩
  obtain ⟨gs1, r1, r2⟩ := rootL_ok (rootA_ok k) xs ⟨[], N, []⟩ _ vs F [] hinv0 hres0 (fun b hb => hFlt b (by simpa using hb)) hl hno
  have hzl : (rootA.rootL k ⟨[], N, []⟩ xs).1.length = xs.length := by rw [← r2.length, hlen]
  have hi1 := r1.inv
  have hinv : Inv ⟨w, G, (· ∈ F), fun i => vs.getD (i - N) undef⟩ G gs1 (entryM k N xs) tm w := by
    refine ⟨hi1.keep, hi1.os, hi1.tape, hi1.output, hi1.size, htms, hi1.gsub, hi1.gnew, hi1.glt, hi1.row, hi1.nod, hi1.own, hi1.dis, fun i => ?_⟩
    show TRel w G (rootA.rootL k ⟨[], N, []⟩ xs).2.rows gs1 (lk (entryT 0 _ ++ entryT N _) i) _ []
    rw [entryT_lk]
    by_cases hi : i < xs.length
    · rw [if_pos ⟨by omega, by rw [hzl]; omega⟩]
      unfold vat
      rw [if_pos (by rw [htms]; omega)]
      have := r2.get' i (by rw [hzl]; exact hi)
      have e : tm.getD i undef = vs.getD i undef := by
        rw [← htm, Array.getD_eq_getD_getElem?, Array.getElem?_append_left (by simp; omega)]
        simp
      rw [e, Nat.sub_zero]; exact this
    · rw [if_neg (by rw [hzl]; omega), lk_entryT]
      by_cases hi2 : N ≤ i ∧ i < N + xs.length
      · rw [if_pos hi2.1]
        unfold vat
        rw [if_neg (by rw [htms]; omega)]
        exact r2.get' (i - N) (by rw [hzl]; omega)
      · have : (if N ≤ i then (rootA.rootL k ⟨[], N, []⟩ xs).1.getD (i - N) .un else .un) = A.un := by
          split
          · rw [List.getD_eq_getElem?_getD, List.getElem?_eq_none (by rw [hzl]; omega)]; rfl
          · rfl
        rw [this]; exact .un
  subst hΩ
  have hwalk := VC.mono (vstart hT rfl h) (K' := outM std T N rs x outs) (fun e S' h => h)
  refine wp_mono (hwalk ⟨w, G, (· ∈ F), fun i => vs.getD (i - N) undef⟩ { tmps := tm, defers := [] } w ⟨rfl, G, _, hinv⟩) ?_
  rintro e a' w' ⟨S', ⟨hd, G', gs', hi'⟩, hK⟩
  have fin : vOutM std T N S' rs x outs → a'.defers = [] ∧ ∃ v, (results fn a'.tmps).run P w' = .ok v w' ∧ (∃ v_1 Fx Fo, Ending.returned v = .returned v_1 ∧
      (w'.os = w.os ∧ w'.tape = w.tape ∧ w'.output = w.output ∧ w.heap.size ≤ w'.heap.size ∧ ∀ b, b < w.heap.size → b ∉ F → w'.heap[b]? = w.heap[b]?) ∧
      (Fx ++ Fo).Nodup ∧ (∀ b ∈ Fx ++ Fo, b ∈ F ∨ w.heap.size ≤ b) ∧ Rel w' (fun b => (G b ∨ (w.heap.size ≤ b ∧ b < w'.heap.size)) ∧ b ∉ Fx ++ Fo) x v_1 Fx ∧
      RelL w' (fun b => (G b ∨ (w.heap.size ≤ b ∧ b < w'.heap.size)) ∧ b ∉ Fx ++ Fo) outs vs Fo) := by
    intro ho'
    refine ⟨hd, ?_⟩
    unfold vOutM at ho'
    split at ho' <;> try exact ho'.elim
    rename_i hSN
    obtain ⟨zs, us, g1, g2, g3⟩ := vRes_ok hT hi' ho'
    have hgl : TRelL w' G' S'.rows gs' ((List.range outs.length).map fun i => lk S'.t (S'.N + i)) vs [] := by
      have e : vs = (List.range outs.length).map fun i => vat ⟨w, G, (· ∈ F), fun i => vs.getD (i - N) undef⟩ a'.tmps (S'.N + i) := by
        have hsz := hi'.sz
        apply List.ext_getElem?
        intro i
        rw [List.getElem?_map]
        by_cases hi : i < outs.length
        · rw [List.getElem?_range hi]
          unfold vat
          rw [Option.map_some, if_neg (by rw [hsz]; omega), hSN]
          show vs[i]? = some (vs.getD (N + i - N) undef)
          rw [Nat.add_sub_cancel_left, List.getD_eq_getElem?_getD, List.getElem?_eq_getElem (by omega)]
          rfl
        · rw [List.getElem?_eq_none (by rw [hlen, ← ho]; omega), List.getElem?_eq_none (by simp; omega)]; rfl
      have : ∀ l : List Nat, TRelL w' G' S'.rows gs' (l.map fun i => lk S'.t (S'.N + i)) (l.map fun i => vat ⟨w, G, (· ∈ F), fun i => vs.getD (i - N) undef⟩ a'.tmps (S'.N + i)) [] := fun l => by
        induction l with
        | nil => exact .nil
        | cons i l ih => exact .cons (F := []) (Fs := []) (hi'.tmp _) ih
      obtain ⟨us, hus⟩ : ∃ us, us = (List.range outs.length).map fun i => vat ⟨w, G, (· ∈ F), fun i => vs.getD (i - N) undef⟩ a'.tmps (S'.N + i) := ⟨_, rfl⟩
      have h2 := this (List.range outs.length)
      rw [← hus] at h2
      rw [← hus] at e
      rw [e]; exact h2
    split at g1 <;> try exact g1.elim
    rename_i hok
    obtain ⟨hc, hfit, hfits⟩ := vStash_ok _ _ _ _ g1
    obtain ⟨k1, hfit⟩ := hfit.h
    obtain ⟨k2, hfits⟩ := hfits.h
    have hall := g3.append0 hgl
    obtain ⟨Fz, hst, hrel⟩ := stashL_ok _ _ S' _ [] rfl hi' Res.nil (flat_rel hall hok) hc
    rw [List.append_nil] at hst
    have hrg := regroup_rel hall hok hrel
    obtain ⟨Fx, Fo, rfl, q1, q2⟩ := hrg.split_at
    rw [g3.length] at q1 q2
    have hx := fitA_rel k1 _ _ _ _ hfit (oneA_rel q1)
    have hos := fitL_rel (fun x y v F => fitA_rel k2 x y v F) _ _ _ _ hfits q2
    have hGG : ∀ b, G' b → ((G b ∨ (w.heap.size ≤ b ∧ b < w'.heap.size)) ∧ b ∉ Fx ++ Fo) ∧ w'.heap[b]? = w'.heap[b]? := fun b hb => by
      refine ⟨⟨?_, fun hF => (hst.res.own b hF).1 hb⟩, rfl⟩
      rcases hi'.gnew b hb with h | h
      · exact .inl h
      · exact .inr ⟨h, hi'.glt b hb⟩
    exact ⟨oneV us, h4 _ _ _ g2, _, Fx, Fo, rfl, ⟨hi'.os, hi'.tape, hi'.output, hi'.size, fun b hb hF => hi'.keep b hb hF⟩, hst.res.nod, fun b hb => (hst.res.own b hb).2, hx.move_ hGG (fun _ _ => rfl), hos.move_ hGG (fun _ _ => rfl)⟩
  cases e with
  | normal => exact fin hK
  | ret => exact fin hK
  | _ => exact hK.elim
end
end Go.Fw

/- The same rules with lengths kept shut. Plain theorems, no condition. -/
set_option linter.unusedVariables false
set_option linter.unusedSimpArgs false
namespace Go.Fw
def rootO (Ω : Opq) : Nat → State → A → A × State
  | 0, S, x => (x, S)
  | k + 1, S, x => match x with
    | .sl true n xs => (.vw S.rows.length 0 (Ω.len xs), S.addRow ⟨n, xs, false⟩)
    | .bx xs => (.pt S.rows.length 0 0, S.addRow ⟨xs.length, [.agg xs], true⟩)
    | .agg xs => (.agg (rootOL k S xs).1, (rootOL k S xs).2)
    | .tup xs => (.tup (rootOL k S xs).1, (rootOL k S xs).2)
    | x => (x, S)
where rootOL (k : Nat) (S : State) : List A → List A × State
    | [] => ([], S)
    | x :: xs => ((rootO Ω k S x).1 :: (rootOL k (rootO Ω k S x).2 xs).1, (rootOL k (rootO Ω k S x).2 xs).2)
theorem rootOL_std {k : Nat} (ih : ∀ S x, rootO std k S x = rootA k S x) : ∀ (xs : List A) (S : State), rootO.rootOL std k S xs = rootA.rootL k S xs
  | [], S => by rw [rootO.rootOL, rootA.rootL]
  | x :: xs, S => by rw [rootO.rootOL, rootA.rootL, ih, rootOL_std ih xs]
theorem rootO_std : ∀ (k : Nat) (S : State) (x : A), rootO std k S x = rootA k S x
  | 0, S, x => by rw [rootO, rootA]
  | k + 1, S, x => by
    have ih := rootOL_std (rootO_std k)
    unfold rootO rootA
    cases x with
    | sl o n xs => cases o <;> rfl
    | agg xs => simp only; rw [ih]
    | tup xs => simp only; rw [ih]
    | _ => rfl
def entryO (Ω : Opq) (k N : Nat) (xs : List A) : State :=
  ⟨entryT 0 (rootO.rootOL Ω k ⟨[], N, []⟩ xs).1 ++ entryT N (rootO.rootOL Ω k ⟨[], N, []⟩ xs).1, N, (rootO.rootOL Ω k ⟨[], N, []⟩ xs).2.rows⟩
section
variable {P : Program} {T : Nat → Option TI} {S : State} {Ω : Opq}
theorem call_pure (hΩ : Ω = std) (k : Nat) {g : Nat} {args ys0 ys : List A} {x : A} {K : A → State → Prop} (hc : PCtr P g ys x) (h1 : mapO (roO S k) args = some ys0) (h2 : fitA.fitL k ys0 ys) (hx : roFree x = true)
    (hno : noOwn (rootO Ω k S x).1 = true) (hK : K (rootO Ω k S x).1 (rootO Ω k S x).2) : CallX P g args S K := by
  subst hΩ
  rw [rootO_std] at hno hK
  exact ⟨CallOK_pure hc h1 h2 hx hno hK⟩
theorem call_share (hΩ : Ω = std) (k : Nat) {g : Nat} {args ys : List A} {x : A} {K : A → State → Prop} (hc : PCtr P g ys x) (h1 : args.all isData = true) (h2 : fitA.fitL k args ys)
    (hno : noOwn (rootO Ω k S x).1 = true) (hK : K (rootO Ω k S x).1 (rootO Ω k S x).2) : CallX P g args S K := by
  subst hΩ
  rw [rootO_std] at hno hK
  exact ⟨CallOK_share hc h1 h2 hno hK⟩
theorem call_mut (hΩ : Ω = std) (k : Nat) {g : Nat} {args ys outs : List A} {x : A} {l : List (Nat × List A)} {K : A → State → Prop} (hc : MCtr P g ys x outs) (hm : MutL S args ys outs l) (hnd : (l.map (·.1)).Nodup)
    (hno : noOwn (rootO Ω k (S.mut l) x).1 = true) (hK : K (rootO Ω k (S.mut l) x).1 (rootO Ω k (S.mut l) x).2) : CallX P g args S K := by
  subst hΩ
  rw [rootO_std] at hno hK
  exact ⟨CallOK_mut hc hm hnd hno hK⟩
theorem MCtr.walkO (hT : TabOK P T) (hΩ : Ω = std) (k : Nat) {g : Nat} {c : Code} {N : Nat} {rs : List ResultVar} {xs : List A} {x : A} {outs : List A} (hf : FnAt P g c N rs) (hN : Nat.ble xs.length N = true)
    (hno : (rootO.rootOL Ω k ⟨[], N, []⟩ xs).1.all noOwn = true) (ho : outs.length = xs.length) (h : vC Ω P T c (entryO Ω k N xs) (outM Ω T N rs x outs)) : MCtr P g xs x outs := by
  have e := rootOL_std (rootO_std k)
  refine MCtr.walk hT hΩ k hf hN ?_ ho ?_
  · subst hΩ; rw [← e]; exact hno
  · have : entryO Ω k N xs = entryM k N xs := by subst hΩ; unfold entryO entryM; rw [e]
    rw [← this]; exact h
end
end Go.Fw

/- Calls that are handed own data for good. Plain theorems, no condition. -/
set_option linter.unusedVariables false
set_option linter.unusedSimpArgs false
namespace Go.Fw
/-- A contract of a function that is handed own data for good: what comes back may hold them. -/
structure ECtr (P : Program) (g : Nat) (args : List A) (x : A) : Prop where
  enter : Enter P g
  run : ∀ (w : World) (G : Nat → Prop) (vs : List Value) (F : List Nat), (∀ b, G b → b < w.heap.size) → F.Nodup → (∀ b ∈ F, ¬ G b) → RelL w G args vs F → Calls P g vs.toArray w (fun e w' => ∃ v Fx, e = .returned v ∧
    (w'.os = w.os ∧ w'.tape = w.tape ∧ w'.output = w.output ∧ w.heap.size ≤ w'.heap.size ∧ ∀ b, b < w.heap.size → b ∉ F → w'.heap[b]? = w.heap[b]?) ∧
    Fx.Nodup ∧ (∀ b ∈ Fx, b ∈ F ∨ w.heap.size ≤ b) ∧ Rel w' (fun b => (G b ∨ (w.heap.size ≤ b ∧ b < w'.heap.size)) ∧ b ∉ Fx) x v Fx)
def entryE (Ω : Opq) (k N : Nat) (xs : List A) : State := ⟨entryT 0 (rootO.rootOL Ω k ⟨[], N, []⟩ xs).1, N, (rootO.rootOL Ω k ⟨[], N, []⟩ xs).2.rows⟩
section
variable {P : Program} {T : Nat → Option TI} {S : State} {Ω : Opq}
theorem ECtr.walk (hT : TabOK P T) (hΩ : Ω = std) (k : Nat) {g : Nat} {c : Code} {N : Nat} {rs : List ResultVar} {xs : List A} {x : A} (hf : FnAt P g c N rs) (hN : Nat.ble xs.length N = true)
    (hno : (rootO.rootOL Ω k ⟨[], N, []⟩ xs).1.all noOwn = true) (h : vC Ω P T c (entryE Ω k N xs) (outV Ω T rs x)) : ECtr P g xs x := by
  subst hΩ
  have hroot := rootOL_std (rootO_std k)
  unfold entryE at h
  rw [hroot] at h hno
  have hN := Nat.le_of_ble_eq_true hN
  obtain ⟨hen, fn, h1, h2, h3, h4⟩ := hf
  refine ⟨hen, fun w G vs F hG hFnd hFG hl => ?_⟩
  have hlen := hl.length
  have hFlt := hl.lt
  refine calls_of_wp h1 h2 ?_
  generalize htm : vs.toArray ++ Array.replicate (fn.ntmps - vs.toArray.size) undef = tm
  have htms : tm.size = N := by rw [← htm]; simp; omega
  have hinv0 : Inv ⟨w, G, (· ∈ F), fun _ => undef⟩ G (fun _ => (none, [])) ⟨[], N, []⟩ tm w := by
    refine ⟨fun _ _ _ => rfl, rfl, rfl, rfl, Nat.le_refl _, htms, fun _ h => h, fun _ h => .inl h, hG, ?_, ?_, ?_, ?_, fun i => .un⟩
    · intro r row hr; simp [rowAt] at hr
    · intro r row hr; simp [rowAt] at hr
    · intro r row hr; simp [rowAt] at hr
    · intro r r' row row' hr; simp [rowAt] at hr
  have hres0 : Res ⟨w, G, (· ∈ F), fun _ => undef⟩ G (fun _ => (none, [])) (State.rows ⟨[], N, []⟩) (F ++ []) := by
    rw [List.append_nil]
    exact ⟨hFnd, fun b hb => ⟨hFG b hb, .inl hb⟩, fun r row hr => by simp [rowAt] at hr⟩
  obtain ⟨gs1, r1, r2⟩ := rootL_ok (rootA_ok k) xs ⟨[], N, []⟩ _ vs F [] hinv0 hres0 (fun b hb => hFlt b (by simpa using hb)) hl hno
  have hzl : (rootA.rootL k ⟨[], N, []⟩ xs).1.length = xs.length := by rw [← r2.length, hlen]
  have hi1 := r1.inv
  have hinv : Inv ⟨w, G, (· ∈ F), fun _ => undef⟩ G gs1 ⟨entryT 0 (rootA.rootL k ⟨[], N, []⟩ xs).1, N, (rootA.rootL k ⟨[], N, []⟩ xs).2.rows⟩ tm w := by
    refine ⟨hi1.keep, hi1.os, hi1.tape, hi1.output, hi1.size, htms, hi1.gsub, hi1.gnew, hi1.glt, hi1.row, hi1.nod, hi1.own, hi1.dis, fun i => ?_⟩
    show TRel w G (rootA.rootL k ⟨[], N, []⟩ xs).2.rows gs1 (lk (entryT 0 _) i) _ []
    rw [lk_entryT, if_pos (Nat.zero_le _), Nat.sub_zero]
    by_cases hi : i < xs.length
    · unfold vat
      rw [if_pos (by rw [htms]; omega)]
      have := r2.get' i (by rw [hzl]; exact hi)
      have e : tm.getD i undef = vs.getD i undef := by
        rw [← htm, Array.getD_eq_getD_getElem?, Array.getElem?_append_left (by simp; omega)]
        simp
      rw [e]; exact this
    · rw [List.getD_eq_getElem?_getD, List.getElem?_eq_none (by omega)]
      exact .un
  refine wp_mono ((VC.mono (vstart hT rfl h) fun e S' h => outV_ok hT h) ⟨w, G, (· ∈ F), fun _ => undef⟩ { tmps := tm, defers := [] } w ⟨rfl, G, _, hinv⟩) ?_
  rintro e a' w' ⟨S', ⟨hd, G', gs', hi'⟩, hK⟩
  have fin : Outs P rs x S' → a'.defers = [] ∧ ∃ v, (results fn a'.tmps).run P w' = .ok v w' ∧ (∃ v_1 Fx, Ending.returned v = .returned v_1 ∧
      (w'.os = w.os ∧ w'.tape = w.tape ∧ w'.output = w.output ∧ w.heap.size ≤ w'.heap.size ∧ ∀ b, b < w.heap.size → b ∉ F → w'.heap[b]? = w.heap[b]?) ∧
      Fx.Nodup ∧ (∀ b ∈ Fx, b ∈ F ∨ w.heap.size ≤ b) ∧ Rel w' (fun b => (G b ∨ (w.heap.size ≤ b ∧ b < w'.heap.size)) ∧ b ∉ Fx) x v_1 Fx) := by
    intro ho
    refine ⟨hd, ?_⟩
    obtain ⟨vs', zs, Fx, k', g1, g2, g3, g4, g5⟩ := ho _ _ _ _ _ hi'
    refine ⟨oneV vs', h4 _ _ _ g1, _, Fx, rfl, ⟨hi'.os, hi'.tape, hi'.output, hi'.size, fun b hb hF => hi'.keep b hb hF⟩, g3, fun b hb => (g4 b hb).2, ?_⟩
    refine (fitA_rel k' _ _ _ _ g5 (oneA_rel g2)).move_ (fun b hb => ⟨⟨?_, fun hF => (g4 b hF).1 hb⟩, rfl⟩) (fun _ _ => rfl)
    rcases hi'.gnew b hb with h | h
    · exact .inl h
    · exact .inr ⟨h, hi'.glt b hb⟩
  cases e with
  | normal => exact fin hK
  | ret => exact fin hK
  | _ => exact hK.elim
theorem eat_end {E : Env} {G : Nat → Prop} {gs : Gh} {S1 : State} {tmps : Array Value} {w w' : World} {F Fx : List Nat} {x : A} {v : Value} (k : Nat) (hi1 : Inv E G gs S1 tmps w) (hR : Res E G gs S1.rows F)
    (hos : w'.os = w.os) (htape : w'.tape = w.tape) (hout : w'.output = w.output) (hsize : w.heap.size ≤ w'.heap.size) (hold : ∀ b, b < w.heap.size → b ∉ F → w'.heap[b]? = w.heap[b]?)
    (hnd : Fx.Nodup) (hmem : ∀ b ∈ Fx, b ∈ F ∨ w.heap.size ≤ b) (hx : Rel w' (fun b => (G b ∨ (w.heap.size ≤ b ∧ b < w'.heap.size)) ∧ b ∉ Fx) x v Fx) (hno : noOwn (rootA k S1 x).1 = true) :
    ∃ gs2, Inv E (fun b => (G b ∨ (w.heap.size ≤ b ∧ b < w'.heap.size)) ∧ b ∉ Fx) gs2 (rootA k S1 x).2 tmps w' ∧ TRel w' (fun b => (G b ∨ (w.heap.size ≤ b ∧ b < w'.heap.size)) ∧ b ∉ Fx) (rootA k S1 x).2.rows gs2 (rootA k S1 x).1 v [] := by
  have hrow : ∀ r row, rowAt S1.rows r = some row → ∀ b ∈ gs.all r, w'.heap[b]? = w.heap[b]? ∧ b ∉ Fx := fun r row hr b hb => by
    have h1 := hi1.block_lt hr b hb
    have h2 := hR.dis r row hr b hb
    refine ⟨hold b h1 h2, fun hF => ?_⟩
    rcases hmem b hF with h | h
    · exact h2 h
    · omega
  have hGF : ∀ b, G b → b ∉ Fx := fun b h hF => by
    have := hi1.glt b h
    rcases hmem b hF with h2 | h2
    · exact (hR.own b h2).1 h
    · omega
  have hG : ∀ b, G b → ((G b ∨ (w.heap.size ≤ b ∧ b < w'.heap.size)) ∧ b ∉ Fx) ∧ w'.heap[b]? = w.heap[b]? := fun b h => ⟨⟨.inl h, hGF b h⟩, hold b (hi1.glt b h) fun hF => (hR.own b hF).1 h⟩
  have hle : ∀ r, RowLe w w' S1.rows S1.rows gs gs r := fun r => RowLe.refl_of fun row h => ⟨h, rfl, fun b hob => (hrow r row h b (by simp [Gh.all, hob])).1⟩
  have hi' : Inv E (fun b => (G b ∨ (w.heap.size ≤ b ∧ b < w'.heap.size)) ∧ b ∉ Fx) gs S1 tmps w' := by
    refine ⟨fun b h hf => ?_, hos.trans hi1.os, htape.trans hi1.tape, hout.trans hi1.output, Nat.le_trans hi1.size hsize, hi1.sz, fun b h => ⟨.inl (hi1.gsub b h), hGF b (hi1.gsub b h)⟩, fun b h => ?_, fun b h => ?_, fun r row hr => ?_,
      hi1.nod, fun r row hr b hb => ?_, hi1.dis, fun i => (hi1.tmp i).step hG hle (by simp)⟩
    · rw [hold b (Nat.lt_of_lt_of_le h hi1.size) fun hF => ?_]
      · exact hi1.keep b h hf
      · rcases (hR.own b hF).2 with h2 | h2
        · exact hf h2
        · omega
    · rcases h.1 with h | h
      · exact hi1.gnew b h
      · exact .inr (Nat.le_trans hi1.size h.1)
    · rcases h.1 with h | h
      · exact Nat.lt_of_lt_of_le (hi1.glt b h) hsize
      · exact h.2
    · exact (hi1.row r row hr).step hG hle fun c hc => (hrow r row hr c hc).1
    · obtain ⟨g1, g2⟩ := hi1.own r row hr b hb
      refine ⟨fun h => ?_, g2⟩
      have := hi1.block_lt hr b hb
      rcases h.1 with h | h
      · exact g1 h
      · omega
  have hR' : Res E (fun b => (G b ∨ (w.heap.size ≤ b ∧ b < w'.heap.size)) ∧ b ∉ Fx) gs S1.rows (Fx ++ []) := by
    rw [List.append_nil]
    refine ⟨hnd, fun b hb' => ⟨fun h => h.2 hb', ?_⟩, fun r row hr b hb1 hb2 => (hrow r row hr b hb1).2 hb2⟩
    rcases hmem b hb' with h2 | h2
    · exact (hR.own b h2).2
    · exact .inr (Nat.le_trans hi1.size h2)
  obtain ⟨gs2, q1, q2⟩ := rootA_ok k S1 gs x v Fx [] hi' hR' (fun b hb' => hx.lt b (by simpa using hb')) hx hno
  exact ⟨gs2, q1.inv, q2⟩
theorem CallOK_eat {g k j : Nat} {args ys : List A} {x : A} {K : A → State → Prop} (hc : ECtr P g ys x) (hst : (stashL S args).1) (hfit : fitA.fitL j (stashL S args).2.1 ys)
    (hno : noOwn (rootA k (stashL S args).2.2.1 x).1 = true) (hK : K (rootA k (stashL S args).2.2.1 x).1 (rootA k (stashL S args).2.2.1 x).2) : CallOK P g args S K := by
  refine ⟨hc.enter, fun E G gs tmps w vs hi hl => ?_⟩
  obtain ⟨F, hst', hrel⟩ := stashL_ok _ args S vs [] rfl hi Res.nil hl hst
  rw [List.append_nil] at hst'
  have hrel := fitL_rel (fun x y v F => fitA_rel j x y v F) _ _ _ _ hfit hrel
  have hi1 := hst'.inv
  have hR := hst'.res
  have hlt : ∀ b ∈ F, b < w.heap.size := hst'.lt (by simp)
  revert hno hK hi1 hR
  generalize (stashL S args).2.2.1 = S1
  intro hno hK hi1 hR
  refine Calls.mono (hc.run w G vs F hi1.glt hR.nod (fun b hb => (hR.own b hb).1) hrel) ?_
  rintro e w' ⟨v, Fx, rfl, ⟨hos, htape, hout, hsize, hold⟩, hnd, hmem, hx⟩
  obtain ⟨gs2, q1, q2⟩ := eat_end k hi1 hR hos htape hout hsize hold hnd hmem hx hno
  exact ⟨v, _, _, _, gs2, rfl, hK, q1, q2⟩
theorem mapO_relG {f : A → Option A} {w : World} {G G' : Nat → Prop} {gs : Gh} {rows : List (Option Row)} (hf : ∀ x v F y, (∀ b ∈ F, G' b) → TRel w G rows gs x v F → f x = some y → Rel w G' y v []) : ∀ {xs : List A} {vs : List Value} {F : List Nat} {ys : List A},
    (∀ b ∈ F, G' b) → TRelL w G rows gs xs vs F → mapO f xs = some ys → RelL w G' ys vs []
  | [], _, _, ys, _, h, hm => by
    cases h
    simp only [mapO, Option.some.injEq] at hm
    subst hm; exact .nil
  | x :: xs, _, _, ys, hF, h, hm => by
    cases h with
    | cons h hl =>
      simp only [mapO] at hm
      cases hx : f x with
      | none => rw [hx] at hm; simp at hm
      | some y =>
        rw [hx] at hm
        cases hxs : mapO f xs with
        | none => rw [hxs] at hm; simp at hm
        | some us =>
          rw [hxs] at hm
          simp only [Option.some.injEq] at hm
          subst hm
          exact .cons (F := []) (Fs := []) (hf _ _ _ _ (fun b hb => hF b (by simp [hb])) h hx) (mapO_relG hf (fun b hb => hF b (by simp [hb])) hl hxs)
theorem roO_relG {E : Env} {G G' : Nat → Prop} {gs : Gh} {tmps : Array Value} {w : World} (hi : Inv E G gs S tmps w) (hGO : ∀ b, G b → G' b) (hrow : ∀ r row, rowAt S.rows r = some row → ∀ b ∈ gs.all r, G' b) :
    ∀ (k : Nat) (x : A) (v : Value) (F : List Nat) (y : A), (∀ b ∈ F, G' b) → TRel w G S.rows gs x v F → roO S k x = some y → Rel w G' y v [] := by
  intro k
  induction k with
  | zero => intro x v F y _ _ hy; simp [roO] at hy
  | succ k ih =>
    intro x v F y hF h hy
    have plain : ∀ {x : A} {v : Value}, TRel w G S.rows gs x v F → isData x = true → Rel w G' (Fw.frz x) v [] := fun h hd => (h.data hd).frz hGO hF
    cases x with
    | un => simp [roO] at hy
    | sc u =>
      simp only [roO, Option.some.injEq] at hy; subst hy
      have := plain h (isData_sc u); rwa [frz_sc] at this
    | nil =>
      simp only [roO, Option.some.injEq] at hy; subst hy
      have := plain h isData_nil; rwa [frz_nil] at this
    | sl o n xs =>
      cases o with
      | true =>
        simp only [roO, Option.some.injEq] at hy; subst hy
        have := plain h (isData_sl true n xs); rwa [frz_sl] at this
      | false =>
        simp only [roO, Option.some.injEq] at hy; subst hy
        exact (h.data (isData_sl false n xs)).noOwn (by simp [noOwn_sl]) ▸ (h.data (isData_sl false n xs)).move_ (fun b hb => ⟨hGO b hb, rfl⟩) (fun b hb => rfl)
    | rp xs =>
      simp only [roO, Option.some.injEq] at hy; subst hy
      exact (h.data (isData_rp xs)).noOwn (by simp [noOwn_rp]) ▸ (h.data (isData_rp xs)).move_ (fun b hb => ⟨hGO b hb, rfl⟩) (fun b hb => rfl)
    | bx xs =>
      simp only [roO, Option.some.injEq] at hy; subst hy
      have := plain h (isData_bx xs); rwa [frz_bx] at this
    | agg xs =>
      simp only [roO, Option.map_eq_some_iff] at hy
      obtain ⟨ys, h1, rfl⟩ := hy
      obtain ⟨cs, rfl, hl⟩ := agg_inv h
      have := Rel.agg (mapO_relG (G' := G') (fun x v F y hF hx hy => ih x v F y hF hx hy) hF hl h1)
      simpa using this
    | tup xs =>
      simp only [roO, Option.map_eq_some_iff] at hy
      obtain ⟨ys, h1, rfl⟩ := hy
      obtain ⟨cs, rfl, hl⟩ := tup_inv h
      have := Rel.tup (mapO_relG (G' := G') (fun x v F y hF hx hy => ih x v F y hF hx hy) hF hl h1)
      simpa using this
    | clo g xs =>
      simp only [roO, Option.map_eq_some_iff] at hy
      obtain ⟨ys, h1, rfl⟩ := hy
      cases h with
      | of h => cases h with | clo hl => exact .clo (mapO_relG (gs := gs) (rows := S.rows) (G' := G') (fun x v F y hF hx hy => ih x v F y hF hx hy) hF (.of hl) h1)
      | clo hl => exact .clo (mapO_relG (G' := G') (fun x v F y hF hx hy => ih x v F y hF hx hy) hF hl h1)
    | vw r off len =>
      simp only [roO] at hy
      cases hr : rowAt S.rows r with
      | none => simp [hr] at hy
      | some row =>
        simp only [hr] at hy
        split at hy
        · simp at hy
        · rename_i hlk
          simp only [Option.some.injEq] at hy
          subst hy
          rcases vw_inv h with ⟨row', kk, cap, cur, e, b, hr', hob, g1, g2, g3, g4, g5, g6, rfl⟩ | ⟨row', hr', hob, hxs, rfl, rfl, rfl⟩
          · rw [hr] at hr'
            obtain rfl := Option.some.inj hr'
            have hrr := hi.row r row hr
            rw [hob] at hrr
            obtain ⟨cur', e', cap', h1, h2, h3, h4, h5, h6, h7⟩ := hrr.ex
            rw [g2] at h1
            simp only [Option.some.injEq, Obj.cells.injEq] at h1
            obtain ⟨rfl, rfl, _⟩ := h1
            unfold CellsRel at h7
            rw [if_neg hlk] at h7
            obtain ⟨F1, F2, e1, _, k2⟩ := h7.take_ (off * row.n)
            obtain ⟨F3, F4, e2, k3, _⟩ := k2.take_ (len * row.n)
            rw [flat_drop off h5, flat_take len (fun y hy => h5 y (List.mem_of_mem_drop hy))] at k3
            have hle : (off + len) * row.n ≤ row.xs.length * row.n := Nat.mul_le_mul_right _ g1
            rw [Nat.add_mul] at hle
            rw [List.drop_take, List.take_take, Nat.min_eq_left (by omega)] at k3
            have k4 := RelL.frz k3 (G' := G') hGO (fun c hc => hrow r row hr c (by simp [Gh.all, e1, e2, hc]))
            rw [← flat_frz] at k4
            have hlen : len = (((row.xs.drop off).take len).map Fw.frz).length := by simp; omega
            have hw : ∀ y ∈ ((row.xs.drop off).take len).map Fw.frz, y.width = row.n := fun y hy => by
              obtain ⟨z, hz, rfl⟩ := List.mem_map.1 hy
              rw [width_frz]; exact h5 z (List.mem_of_mem_drop (List.mem_of_mem_take hz))
            have hold : G' b := hrow r row hr b (by simp [Gh.all, hob])
            refine .ro g2 hold hw hlen rfl ?_ (by omega) (by omega)
            rcases g6 with hk | hk
            · rw [hk]; exact k4
            · have h0 : len = 0 := by omega
              subst h0
              simpa using k4
          · rw [hr] at hr'
            obtain rfl := Option.some.inj hr'
            simpa using Rel.nils
    | pt r j o =>
      simp only [roO] at hy
      cases hr : rowAt S.rows r with
      | none => simp [hr] at hy
      | some row =>
        simp only [hr] at hy
        by_cases hjo : j < row.xs.length ∧ o ≤ row.n
        case neg => rw [if_neg hjo] at hy; simp at hy
        rw [if_pos hjo] at hy
        obtain ⟨row', b, hr', hb, rfl⟩ := pt_inv h
        rw [hr] at hr'
        obtain rfl := Option.some.inj hr'
        obtain ⟨b', hb', hrc⟩ := row_real hi hr (by omega)
        rw [hb] at hb'
        obtain rfl := Option.some.inj hb'
        obtain ⟨cur, e, cap, h1, h2, h3, h4, h5, h6, h7⟩ := hrc.ex
        have hz : row.xs[j]? = some (row.xs.getD j .un) := by simp [List.getD_eq_getElem?_getD, List.getElem?_eq_getElem hjo.1]
        generalize row.xs.getD j .un = x at hy hz
        have hw := h5 x (List.mem_of_getElem? hz)
        unfold A.width at hw
        have hseg := flat_seg h5 hz o (row.n - o) (by omega)
        have hxl : ((x.cells.drop o).take (row.n - o)) = x.cells.drop o := by rw [List.take_of_length_le (by simp; omega)]
        have hle : (j + 1) * row.n ≤ row.xs.length * row.n := Nat.mul_le_mul_right _ hjo.1
        rw [Nat.add_mul] at hle
        have hcur : ((cur.toList.take (row.xs.length * row.n)).drop (j * row.n + o)).take (row.n - o) = (cur.toList.drop (j * row.n + o)).take (row.n - o) := by
          rw [List.drop_take, List.take_take, Nat.min_eq_left (by omega)]
        have hold : G' b := hrow r row hr b (by simp [Gh.all, hb])
        have hlenx : (x.cells.drop o).length = row.n - o := by simp; omega
        obtain ⟨F1, F2, e1, _, k2⟩ := h7.t.take_ (j * row.n + o)
        obtain ⟨F3, F4, e2, k3, _⟩ := k2.take_ (row.n - o)
        rw [hseg, hxl, hcur] at k3
        by_cases hlk : row.lk = true
        · rw [if_pos hlk] at hy
          simp only [Option.map_eq_some_iff] at hy
          obtain ⟨ys, hm, rfl⟩ := hy
          have k4 := mapO_relG (G' := G') (fun x v F y hF hx hy => ih x v F y hF hx hy) (fun c hc => hrow r row hr c (by simp [Gh.all, e1, e2, hc])) k3 hm
          have hyl : ys.length = row.n - o := by rw [← k4.length, k3.length, hlenx]
          exact .rp h1 hold rfl (by rw [hyl]; exact k4)
        · rw [if_neg hlk] at hy
          simp only [Option.some.injEq] at hy
          subst hy
          unfold CellsRel at h7
          rw [if_neg hlk] at h7
          obtain ⟨F1', F2', e1', _, k2'⟩ := h7.take_ (j * row.n + o)
          obtain ⟨F3', F4', e2', k3', _⟩ := k2'.take_ (row.n - o)
          rw [hseg, hxl, hcur] at k3'
          have k4 := RelL.frz k3' (G' := G') hGO (fun c hc => hrow r row hr c (by simp [Gh.all, e1', e2', hc]))
          exact .rp h1 hold rfl (by rw [List.length_map, hlenx]; exact k4)

/-- One own row is handed over for good, all else is only read. -/
theorem CallOK_eat2 {g k r len : Nat} {row : Row} {rest ys0 ys : List A} {x : A} {K : A → State → Prop} (hc : ECtr P g (.sl true row.n row.xs :: ys) x) (hr : rowAt S.rows r = some row) (hlk : row.lk = false) (hlen : len = row.xs.length)
    (h1 : mapO (roO (S.turn r none) k) (rest.map (kill r)) = some ys0) (h2 : fitA.fitL k ys0 ys) (hxf : roFree x = true) (hno : noOwn (rootA k (S.turn r none) x).1 = true) (hK : K (rootA k (S.turn r none) x).1 (rootA k (S.turn r none) x).2) :
    CallOK P g (.vw r 0 len :: rest) S K := by
  refine ⟨hc.enter, fun E G gs tmps w vs hi hl => ?_⟩
  generalize hF0 : ([] : List Nat) = F0 at hl
  cases hl with
  | cons hv hl =>
    rename_i v0 Fa vs Fb
    have hFF : Fa = [] ∧ Fb = [] := by simpa using hF0.symm
    obtain ⟨rfl, rfl⟩ := hFF
    have hst1 : stash1 S (.vw r 0 len) = (0 = 0 ∧ len ≤ row.xs.length ∧ row.lk = false, .sl true row.n (row.xs.take len), S.turn r none, [r]) := by simp only [stash1, hr]
    obtain ⟨F, hst, hrel⟩ := stash1_ok (R := []) hi Res.nil hv (by rw [hst1]; exact ⟨rfl, by omega, hlk⟩)
    rw [hst1] at hst hrel
    rw [List.take_of_length_le (by omega)] at hrel
    rw [List.append_nil] at hst
    have hi1 : Inv E G gs (S.turn r none) tmps w := hst.inv
    have hR : Res E G gs (S.turn r none).rows F := hst.res
    have hlt : ∀ b ∈ F, b < w.heap.size := hst.lt (by simp)
    have hl' : TRelL w G (S.turn r none).rows gs (rest.map (kill r)) vs [] := by
      have := hst.stepL rest vs hl
      exact this
    have hys := fitL_rel (fun x y v F => fitA_rel k x y v F) ys0 ys vs [] h2 (mapO_relG (G' := fun b => b < w.heap.size ∧ b ∉ F) (fun x v F y hF hx hy => roO_relG hi1 (fun b hb => ⟨hi1.glt b hb, fun hb2 => (hR.own b hb2).1 hb⟩) (fun r row hr b hb => ⟨hi1.block_lt hr b hb, hR.dis r row hr b hb⟩) k x v F y hF hx hy) (by simp) hl' h1)
    have hargs : RelL w (fun b => b < w.heap.size ∧ b ∉ F) (.sl true row.n row.xs :: ys) (v0 :: vs) F := by
      have := RelL.cons (hrel.move_ (w' := w) (G' := fun b => b < w.heap.size ∧ b ∉ F) (fun b hb => ⟨⟨hi1.glt b hb, fun hb2 => (hR.own b hb2).1 hb⟩, rfl⟩) (fun _ _ => rfl)) hys
      simpa using this
    refine Calls.mono (hc.run w (fun b => b < w.heap.size ∧ b ∉ F) (v0 :: vs) F (fun b hb => hb.1) hR.nod (fun b hb h => h.2 hb) hargs) ?_
    rintro e w' ⟨v, Fx, rfl, ⟨hos, htape, hout, hsize, hold⟩, hnd, hmem, hx⟩
    obtain ⟨gs2, q1, q2⟩ := eat_end k hi1 hR hos htape hout hsize hold hnd hmem (hx.anyG hxf _) hno
    exact ⟨v, _, _, _, gs2, rfl, hK, q1, q2⟩
theorem call_eat2 (hΩ : Ω = std) (k : Nat) {g r len : Nat} {row : Row} {rest ys0 ys : List A} {x : A} {K : A → State → Prop} (hc : ECtr P g (.sl true row.n row.xs :: ys) x) (hr : rowAt S.rows r = some row) (hlk : row.lk = false) (hlen : len = row.xs.length)
    (h1 : mapO (roO (S.turn r none) k) (rest.map (kill r)) = some ys0) (h2 : fitA.fitL k ys0 ys) (hxf : roFree x = true) (hno : noOwn (rootO Ω k (S.turn r none) x).1 = true) (hK : K (rootO Ω k (S.turn r none) x).1 (rootO Ω k (S.turn r none) x).2) :
    CallX P g (.vw r 0 len :: rest) S K := by
  subst hΩ
  rw [rootO_std] at hno hK
  exact ⟨CallOK_eat2 hc hr hlk hlen h1 h2 hxf hno hK⟩
/-- The same as a condition that is reckoned. -/
theorem call_eat (hΩ : Ω = std) (k : Nat) {g : Nat} {args ys : List A} {x : A} {K : A → State → Prop} (hc : ECtr P g ys x)
    (h : vStash Ω args.length S args fun us S' _ => FitLX us ys ∧ noOwn (rootO Ω k S' x).1 = true ∧ K (rootO Ω k S' x).1 (rootO Ω k S' x).2) : CallX P g args S K := by
  subst hΩ
  obtain ⟨h1, ⟨j, h2⟩, h3, h4⟩ := vStash_ok _ _ _ _ h
  rw [rootO_std] at h3 h4
  exact ⟨CallOK_eat hc h1 h2 h3 h4⟩
end
section
variable {P : Program} {E : Env} {G : Nat → Prop} {gs : Gh} {S : State} {w : World} {tmps : Array Value}
/-- One cell of a row: what is told of it may be told otherwise. -/
theorem Inv.cell (hi : Inv E G gs S tmps w) {r j q : Nat} {row : Row} {y z : A} (hr : rowAt S.rows r = some row) (hy : row.xs[j]? = some y) (hz : y.cells[q]? = some z) :
    ∃ b cur e v F1 Fz F3, (gs r).1 = some b ∧ w.heap[b]? = some (.cells cur e (0, 0)) ∧ cur[j * row.n + q]? = some v ∧ cellV v = true ∧ TRel w G S.rows gs z v Fz ∧ (gs r).2 = F1 ++ (Fz ++ F3) ∧
      ∀ z' Fy, z'.cells = [z'] → Res E G gs S.rows Fy → TRel w G S.rows gs z' v Fy → Inv E G (gs.add r (some b) (F1 ++ (Fy ++ F3))) (S.setRow r ⟨row.n, row.xs.set j (newElem y q [z']), true⟩) tmps w ∧
        Res E G (gs.add r (some b) (F1 ++ (Fy ++ F3))) (S.setRow r ⟨row.n, row.xs.set j (newElem y q [z']), true⟩).rows Fz ∧
        ∀ x u, TRel w G S.rows gs x u [] → TRel w G (S.setRow r ⟨row.n, row.xs.set j (newElem y q [z']), true⟩).rows (gs.add r (some b) (F1 ++ (Fy ++ F3))) x u [] := by
  have hj : j < row.xs.length := (List.getElem?_eq_some_iff.1 hy).1
  obtain ⟨b, hb, hrc⟩ := row_real hi hr (by omega)
  obtain ⟨cur, e, cap, h1, h2, h3, h4, h5, h6, h7⟩ := hrc.ex
  have hyw := h5 y (List.mem_of_getElem? hy)
  have hq : q < y.cells.length := (List.getElem?_eq_some_iff.1 hz).1
  unfold A.width at hyw
  have hle : (j + 1) * row.n ≤ row.xs.length * row.n := Nat.mul_le_mul_right _ hj
  rw [Nat.add_mul] at hle
  have hle2 : row.xs.length * row.n ≤ cap * row.n := Nat.mul_le_mul_right _ h3
  obtain ⟨F1, F4, e1, k1, k2⟩ := h7.t.take_ (j * row.n + q)
  obtain ⟨Fz, F3, e2, k3, k4⟩ := k2.take_ 1
  rw [List.drop_drop] at k4
  have hseg := flat_seg h5 hy q 1 (by omega)
  have hseg2 : (y.cells.drop q).take 1 = [z] := by
    rw [List.drop_eq_getElem_cons hq]
    rw [List.getElem?_eq_getElem hq] at hz
    simp only [Option.some.injEq] at hz
    simp [hz]
  rw [hseg, hseg2] at k3
  obtain ⟨v, hv⟩ : ∃ v, cur[j * row.n + q]? = some v := ⟨_, Array.getElem?_eq_getElem (by omega)⟩
  have hvs : ((cur.toList.take (row.xs.length * row.n)).drop (j * row.n + q)).take 1 = [v] := by
    rw [List.drop_take, List.take_take, Nat.min_eq_left (by omega)]
    obtain ⟨hv1, hv2⟩ := Array.getElem?_eq_some_iff.1 hv
    rw [List.drop_eq_getElem_cons (by simpa using hv1)]
    simp [hv2]
  rw [hvs] at k3
  have hzv : TRel w G S.rows gs z v Fz := by
    generalize hu : [v] = us at k3
    cases k3 with
    | cons a c =>
      cases c
      cases hu
      simpa using a
  have hcv : cellV v = true := h6 v (by
    have : v ∈ ((cur.toList.take (row.xs.length * row.n)).drop (j * row.n + q)).take 1 := by rw [hvs]; simp
    exact List.mem_of_mem_drop (List.mem_of_mem_take this))
  subst e2
  refine ⟨b, cur, e, v, F1, Fz, F3, hb, h1, hv, hcv, hzv, e1, fun z' Fy hz' hRy hz2 => ?_⟩
  have hcl := newElem_cells' (x := y) (q := q) (ys := [z']) (by unfold A.width; simp; omega) (by simp) (by simpa using hz')
  have hflat := flat_set h5 hy (q := q) (ys := [z']) (by simp; omega) hcl
  have hnod := hi.nod r row hr
  rw [show gs.all r = b :: (F1 ++ (Fz ++ F3)) by simp [Gh.all, hb, e1]] at hnod
  have hnd := (List.nodup_cons.1 hnod).2
  have hdy : ∀ c ∈ b :: (F1 ++ (Fz ++ F3)), c ∉ Fy := fun c hc => hRy.dis r row hr c (by rw [show gs.all r = b :: (F1 ++ (Fz ++ F3)) by simp [Gh.all, hb, e1]]; exact hc)
  refine hi.recast (Fy := Fy) (row' := ⟨row.n, row.xs.set j (newElem y q [z']), true⟩) hr rfl List.length_set hb hRy (R := Fz) (F' := F1 ++ (Fy ++ F3)) (fun c hc => ?_) ?_ ?_
  · rw [e1]
    simp only [List.mem_append] at hc ⊢
    rcases hc with (h | h | h) | h
    · exact .inl (.inl h)
    · exact .inr h
    · exact .inl (.inr (.inr h))
    · exact .inl (.inr (.inl h))
  · rw [List.nodup_append] at hnd ⊢
    obtain ⟨m1, m2, m3⟩ := hnd
    rw [List.nodup_append] at m2
    obtain ⟨m4, m5, m6⟩ := m2
    refine ⟨List.nodup_append.2 ⟨m1, List.nodup_append.2 ⟨hRy.nod, m5, fun a ha c hc h => by subst h; exact hdy a (by simp [hc]) ha⟩, fun a ha c hc h => ?_⟩, m4, fun a ha c hc h => ?_⟩
    · subst h
      rcases List.mem_append.1 hc with hc | hc
      · exact hdy a (by simp [ha]) hc
      · exact m3 a ha a (by simp [hc]) rfl
    · subst h
      rcases List.mem_append.1 ha with ha | ha
      · exact m3 a ha a (by simp [hc]) rfl
      · rcases List.mem_append.1 ha with ha | ha
        · exact hdy a (by simp [hc]) ha
        · exact m6 a hc a ha rfl
  · refine ⟨cur, e, cap, h1, h2, by simpa using h3, h4, ?_, ?_, ?_⟩
    · intro u hu
      rcases List.mem_or_eq_of_mem_set hu with hu | rfl
      · exact h5 u hu
      · show (newElem y q [z']).cells.length = row.n
        rw [hcl]; simp; omega
    · simpa using h6
    · show CellsRel true w G S.rows gs (flat (row.xs.set j (newElem y q [z']))) (cur.toList.take ((row.xs.set j (newElem y q [z'])).length * row.n)) (F1 ++ (Fy ++ F3))
      unfold CellsRel
      rw [if_pos rfl, List.length_set, hflat]
      generalize cur.toList.take (row.xs.length * row.n) = l at hvs k1 k4
      generalize j * row.n + q = p at hvs k1 k4
      have hs1 : l.drop p = [v] ++ (l.drop p).drop 1 := by rw [← hvs, List.take_append_drop]
      have hs2 : l = l.take p ++ ([v] ++ (l.drop p).drop 1) := by rw [← hs1, List.take_append_drop]
      rw [List.append_assoc]
      have := k1.append ((TRelL.cons hz2 .nil).append k4)
      rw [← hs2] at this
      simpa using this
/-- A nil slice in a cell of an own row told as an own row without a block. -/
theorem Sbs.nilCell {r j q n : Nat} {row : Row} {y : A} (hr : rowAt S.rows r = some row) (hy : row.xs[j]? = some y) (hz : y.cells[q]? = some .nil) :
    Sbs S ((S.addRow ⟨n, [], false⟩).setRow r ⟨row.n, row.xs.set j (newElem y q [.vw S.rows.length 0 0]), true⟩) := by
  intro E a w ⟨hd, G, gs, hi⟩
  have hR := adopt_res (R1 := []) (R2 := []) (ob := none) (F := []) hi Res.nil (by simp) rfl (row := ⟨n, [], false⟩) (fun _ _ => ⟨rfl, rfl⟩)
  have hlt := rowAt_lt hr
  have hr1 : rowAt (S.addRow ⟨n, [], false⟩).rows r = some row := by
    show rowAt (S.rows ++ [some ⟨n, [], false⟩]) r = _
    rw [rowAt_push, if_neg (by omega)]; exact hr
  obtain ⟨b, cur, e, v, F1, Fz, F3, _, _, _, _, hzv, _, hcell⟩ := hR.inv.cell hr1 hy hz
  have hv : v = .slice none 0 0 := by
    cases hzv with | of h => cases h; rfl
  have hself : (gs.add S.rows.length none []) S.rows.length = (none, []) := by simp [Gh.add]
  obtain ⟨h1, _, _⟩ := hcell (.vw S.rows.length 0 0) [] rfl Res.nil (by
    rw [hv]
    refine .vwn (row := ⟨n, [], false⟩) ?_ (by rw [hself]) rfl
    show rowAt (S.rows ++ [some ⟨n, [], false⟩]) S.rows.length = _
    rw [rowAt_push, if_pos rfl])
  exact ⟨hd, G, _, h1⟩
end
end Go.Fw

/- Regions that draw their order, of which a first part only reads but for one slice that is made, and the rest stands in one order. Plain theorems, no condition. -/
set_option linter.unusedVariables false
set_option linter.unusedSimpArgs false
namespace Go.Fw
section
variable {P : Program}
theorem under_same {t : TypeId} {d : TypeDesc} {w w1 : World} (h : (underlying t).run P w = .ok d w1) : w1 = w := by
  unfold underlying at h
  simp only [Sem.run_bind, run_program, Result.andThen_ok] at h
  split at h
  · simp at h; exact h.2.symm
  · simp at h
theorem info_same {t : TypeId} {d : TypeInfo} {w w1 : World} (h : (typeInfo t).run P w = .ok d w1) : w1 = w := by
  unfold typeInfo at h
  simp only [Sem.run_bind, run_program, Result.andThen_ok] at h
  split at h
  · simp at h; exact h.2.symm
  · simp at h
theorem size_same {t : TypeId} {d : Nat} {w w1 : World} (h : (sizeOf t).run P w = .ok d w1) : w1 = w := by
  unfold sizeOf at h
  simp only [Sem.run_bind] at h
  generalize hr : (typeInfo t).run P w = r at h
  cases r with
  | halt => simp [Result.andThen] at h
  | ok d w2 =>
    have := info_same hr
    subst this
    simp at h
    exact h.2.symm
theorem zero_same {t : TypeId} {d : Value} {w w1 : World} (h : (zeroValue t).run P w = .ok d w1) : w1 = w := by
  unfold zeroValue at h
  simp only [Sem.run_bind] at h
  generalize hr : (typeInfo t).run P w = r at h
  cases r with
  | halt => simp [Result.andThen] at h
  | ok d w2 =>
    have := info_same hr
    subst this
    simp only [Result.andThen_ok] at h
    split at h
    · simp at h; exact h.2.symm
    · simp at h
theorem newRow_below {t : TypeId} {cs : Array Value} {d : Addr} {w w1 : World} (h : (newRow t cs).run P w = .ok d w1) : Go.RowKit.Below w.heap.size w w1 := by
  have : (newRow t cs).run P w = .ok ⟨w.heap.size, 0, none⟩ (w.alloc (.cells cs t)) := by simp [newRow]
  rw [this] at h
  simp only [Result.ok.injEq] at h
  rw [← h.2]
  refine ⟨rfl, rfl, rfl, ?_, fun k hk => heap_alloc_lt w _ hk⟩
  show w.heap.size ≤ (w.heap.push _).size
  rw [Array.size_push]
  omega
def BelowS (P : Program) {α : Type} (m : Sem α) : Prop := ∀ w v w', m.run P w = .ok v w' → Go.RowKit.Below w.heap.size w w'
theorem BelowS.pure {α : Type} (x : α) : BelowS P (Pure.pure x : Sem α) := fun w v w' h => by
  simp only [Sem.run_pure, Result.ok.injEq] at h
  rw [← h.2]; exact .refl _ _
theorem BelowS.bind {α β : Type} {m : Sem α} {f : α → Sem β} (h : BelowS P m) (hf : ∀ x, BelowS P (f x)) : BelowS P (m >>= f) := fun w v w' hr => by
  rw [Sem.run_bind] at hr
  generalize hm : m.run P w = r at hr
  cases r with
  | halt => simp [Result.andThen] at hr
  | ok x w1 =>
    simp only [Result.andThen_ok] at hr
    have h1 := h _ _ _ hm
    have h2 := hf x _ _ _ hr
    exact ⟨h2.os.trans h1.os, h2.tape.trans h1.tape, h2.output.trans h1.output, Nat.le_trans h1.size h2.size, fun b hb => (h2.block b (Nat.lt_of_lt_of_le hb h1.size)).trans (h1.block b hb)⟩
theorem BelowS.same {α : Type} {m : Sem α} (h : ∀ w v w', m.run P w = .ok v w' → w' = w) : BelowS P m := fun w v w' hr => by
  rw [h _ _ _ hr]; exact .refl _ _
theorem BelowS.halts {α : Type} {m : Sem α} (h : ∀ w v w', m.run P w ≠ .ok v w') : BelowS P m := fun w v w' hr => absurd hr (h _ _ _)
theorem BelowS.bind_halts {α β : Type} {m : Sem α} {f : α → Sem β} (h : ∀ w v w', m.run P w ≠ .ok v w') : BelowS P (m >>= f) := fun w v w' hr => by
  rw [Sem.run_bind] at hr
  generalize hm : m.run P w = r at hr
  cases r with
  | halt => simp [Result.andThen] at hr
  | ok x w1 => exact absurd hm (h _ _ _)
theorem buildSlice_below {t : TypeId} {len : Nat} {parts : Array (Nat × Value)} : BelowS P (Instr.buildSlice t len parts) := by
  unfold Instr.buildSlice
  refine BelowS.bind (.same fun w v w' h => under_same h) fun d => ?_
  split
  · refine BelowS.bind (.same fun w v w' h => size_same h) fun sz => ?_
    dsimp only
    split
    · exact BelowS.bind_halts fun w v w' h => by simp at h
    · split
      · refine BelowS.bind (BelowS.pure _) fun z => ?_
        skip
        split
        · exact BelowS.bind (fun w v w' h => newRow_below h) fun _ => BelowS.pure _
        · exact BelowS.halts fun w v w' h => by simp at h
      · refine BelowS.bind (.same fun w v w' h => zero_same h) fun z => ?_
        refine BelowS.bind (BelowS.pure _) fun z => ?_
        skip
        split
        · exact BelowS.bind (fun w v w' h => newRow_below h) fun _ => BelowS.pure _
        · exact BelowS.halts fun w v w' h => by simp at h
  · exact BelowS.halts fun w v w' h => by simp at h
end
/-! Any order, told by what each operation yields. -/
section
variable {P : Program} {ops : Array Oper} {md : Region.Mode} {Y : Nat → Value → Sem Next → Prop}
def gOp (ops : Array Oper) (Y : Nat → Value → Sem Next → Prop) (i : Nat) (K : Act → Prop) (a : Act) : Prop :=
  match ops[i]? with
  | none => K a
  | some o => if Region.wanted o (yielded ops a.tmps) then ∃ v, Y i v (execOp a.eval o) ∧ K (a.put o.dst v) else K (a.put o.dst undef)
def YG (ops : Array Oper) (Y : Nat → Value → Sem Next → Prop) (i : Nat) (o : Oper) (v : Value) (a : Act) : Prop :=
  (Region.wanted o (yielded ops a.tmps) = true ∧ Y i v (execOp a.eval o)) ∨ (Region.wanted o (yielded ops a.tmps) = false ∧ v = undef)
theorem gOp_mono {i : Nat} {a : Act} {K K' : Act → Prop} (h : ∀ a, K a → K' a) (hh : gOp ops Y i K a) : gOp ops Y i K' a := by
  unfold gOp at *
  split
  · exact h _ (by simpa [*] using hh)
  · rename_i o ho
    simp only [ho] at hh
    split
    · rename_i hw; simp only [hw, if_true] at hh; obtain ⟨v, h1, h2⟩ := hh; exact ⟨v, h1, h _ h2⟩
    · rename_i hw; simp only [hw] at hh; exact h _ hh
theorem YG.gOp {i : Nat} {o : Oper} {v : Value} {a : Act} (hi : ops[i]? = some o) (hy : YG ops Y i o v a) {K : Act → Prop} (h : K (a.put o.dst v)) : Fw.gOp ops Y i K a := by
  unfold Fw.gOp
  simp only [hi]
  rcases hy with ⟨hw, hv⟩ | ⟨hw, rfl⟩
  · simp only [hw, if_true]; exact ⟨v, hv, h⟩
  · simp only [hw, Bool.false_eq_true, if_false]; exact h
theorem YG.of_same {i : Nat} {o : Oper} {v : Value} {a a' : Act} (hy : YG ops Y i o v a) (he : execOp a'.eval o = execOp a.eval o)
    (hw : Region.wanted o (yielded ops a'.tmps) = Region.wanted o (yielded ops a.tmps)) : YG ops Y i o v a' := by
  unfold YG at *
  rw [he, hw]
  exact hy
theorem YG_of_gOp {i : Nat} {o : Oper} {a : Act} {K : Act → Prop} (hi : ops[i]? = some o) (h : gOp ops Y i K a) : ∃ v, YG ops Y i o v a ∧ K (a.put o.dst v) := by
  unfold gOp at h
  simp only [hi] at h
  by_cases hw : Region.wanted o (yielded ops a.tmps) = true
  · simp only [hw, if_true] at h
    obtain ⟨v, h1, h2⟩ := h
    exact ⟨v, .inl ⟨hw, h1⟩, h2⟩
  · simp only [hw] at h
    exact ⟨undef, .inr ⟨by simpa using hw, rfl⟩, h⟩
theorem gOp_put {i j : Nat} {oi oj : Oper} {v : Value} (hj : ops[j]? = some oj) (hap : oi.apart ops oj = true) (hsi : ∀ cs b, oi.op ≠ .select cs b) (hsj : ∀ cs b, oj.op ≠ .select cs b) {K : Act → Prop} {a : Act}
    (hy : YG ops Y i oi v a) (h : gOp ops Y j K (a.put oi.dst v)) : gOp ops Y j (fun a' => YG ops Y i oi v a' ∧ K (a'.put oi.dst v)) a := by
  obtain ⟨h1, h2, h3⟩ := Oper.apart_spec hap
  have keep : ∀ (a : Act), YG ops Y i oi v a → ∀ u, YG ops Y i oi v (a.put oj.dst u) := fun a hy u => hy.of_same (execOp_put oi hsi a oj.dst u h3) (wanted_put oi a oj.dst u h3)
  unfold gOp at *
  simp only [hj] at *
  rw [wanted_put oj a oi.dst v h1] at h
  split
  · rename_i hw
    simp only [hw, if_true] at h
    obtain ⟨u, hu, hn⟩ := h
    rw [execOp_put oj hsj a oi.dst v h1] at hu
    exact ⟨u, hu, keep a hy u, by rw [← Act.put_comm a v u h2]; exact hn⟩
  · rename_i hw
    simp only [hw] at h
    exact ⟨keep a hy _, by rw [← Act.put_comm a v undef h2]; exact h⟩
def anyG (md : Region.Mode) (ops : Array Oper) (Y : Nat → Value → Sem Next → Prop) (n : Nat) (L : Array Bool → Act → Prop) : Nat → Array Bool → Act → Prop
  | 0, listed, a => L listed a
  | f + 1, listed, a => Region.ready md ops listed ≠ [] ∧ ∀ i ∈ Region.ready md ops listed, i < n ∧ gOp ops Y i (anyG md ops Y n L f (listed.setIfInBounds i true)) a
theorem anyG_first {n i : Nat} {oi : Oper} {v : Value} {L : Array Bool → Act → Prop} (hi : ops[i]? = some oi) (hsel : ∀ (j : Nat) (o : Oper) cs b, ops[j]? = some o → o.op ≠ .select cs b) (hin : i < n)
    (hs : Region.sinkB md ops n = true) (hc : Region.chainB md ops n = true) (hn : n < ops.size) (hdone : ∀ listed a, L listed a → ∀ j ∈ Region.ready md ops listed, n ≤ j) :
    ∀ (f : Nat) (listed : Array Bool) (a : Act), HeadInv md ops n listed →
      (∀ j oj, ops[j]? = some oj → j ≠ i → listed.getD j true = false → (∀ e ∈ oj.after, Region.binds md e = true → e.on ≠ i) → oi.apart ops oj = true) →
      i ∈ Region.ready md ops listed → YG ops Y i oi v a →
      anyG md ops Y n L f (listed.setIfInBounds i true) (a.put oi.dst v) → anyG md ops Y n L (f + 1) listed a := by
  intro f
  induction f with
  | zero =>
    intro listed a inv _ hr hy H
    have hun := (mem_ready.1 hr).1
    refine ⟨fun h => (by rw [h] at hr; cases hr), fun j hj => ?_⟩
    have hjn : j < n := (Nat.lt_or_ge j n).elim id fun h => absurd hj (tail_waits hs hc hn inv _ i rfl hin hun j h)
    refine ⟨hjn, ?_⟩
    by_cases hji : j = i
    · subst hji; exact hy.gOp hi H
    · have := hdone _ _ H j (ready_mono hj hji)
      omega
  | succ f ih =>
    intro listed a inv hfree hr hy H
    have hun := (mem_ready.1 hr).1
    refine ⟨fun h => (by rw [h] at hr; cases hr), fun j hj => ?_⟩
    have hjn : j < n := (Nat.lt_or_ge j n).elim id fun h => absurd hj (tail_waits hs hc hn inv _ i rfl hin hun j h)
    refine ⟨hjn, ?_⟩
    by_cases hji : j = i
    · subst hji; exact hy.gOp hi H
    · have h1 := (H.2 j (ready_mono hj hji)).2
      obtain ⟨hjun, oj, hoj, hall⟩ := mem_ready.1 hj
      have hnot : ∀ e ∈ oj.after, Region.binds md e = true → e.on ≠ i := fun e he hb heq => by
        have h1 := hall e he hb
        rw [heq, getD_both hun] at h1
        cases h1
      have h2 := gOp_put hoj (hfree j oj hoj hji hjun hnot) (fun cs b => hsel i oi cs b hi) (fun cs b => hsel j oj cs b hoj) hy h1
      have hfree' : ∀ k ok, ops[k]? = some ok → k ≠ i → (listed.setIfInBounds j true).getD k true = false →
          (∀ e ∈ ok.after, Region.binds md e = true → e.on ≠ i) → oi.apart ops ok = true := fun k ok hk hki hun hno => by
        refine hfree k ok hk hki ?_ hno
        by_cases hjk : j = k
        · subst hjk; exact hjun
        · rw [getD_set_ne true hjk] at hun; exact hun
      refine gOp_mono (fun a' h3 => ih (listed.setIfInBounds j true) a' (inv.set hj hjn) hfree' (ready_mono hr (Ne.symm hji)) h3.1 ?_) h2
      rw [Array.setIfInBounds_comm _ _ hji]
      exact h3.2
def YA (P : Program) (w1 ws : World) (s : Nat) (i : Nat) (v : Value) (m : Sem Next) : Prop :=
  if i = s then m.run P w1 = .ok (.value v) ws else ∀ w', Go.RowKit.Below w1.heap.size w1 w' → m.run P w' = .ok (.value v) w'
def wpV (P : Program) (ops : Array Oper) (w1 : World) (Q : Act → Prop) : List Oper → Act → Prop
  | [], a => Q a
  | o :: rest, a => if Region.wanted o (yielded ops a.tmps) then ∃ v, (∀ w', Go.RowKit.Below w1.heap.size w1 w' → (execOp a.eval o).run P w' = .ok (.value v) w') ∧ wpV P ops w1 Q rest (a.put o.dst v)
      else wpV P ops w1 Q rest (a.put o.dst undef)
theorem anyG_lexA {s g : Nat} {os : Oper} {w1 : World} {Lq : World → Act → Prop} (hos : ops[s]? = some os) (hsg : os.guard = none) (hsel : Region.noSelect ops = true) (hs : Region.sinkB md ops (s + 1) = true) (hc : Region.chainB md ops (s + 1) = true) (hn : s + 1 < ops.size) :
    ∀ (l : List Oper) (k : Nat) (listed : Array Bool) (a : Act), (∀ j, j < l.length → l[j]? = ops[k + j]?) → k + l.length = s → HeadInv md ops (s + 1) listed → Region.lexHead md ops g (l.length + 1) k listed = true →
      wpV P ops w1 (fun a' => ∃ v ws, (execOp a'.eval os).run P w1 = .ok (.value v) ws ∧ Go.RowKit.Below w1.heap.size w1 ws ∧ Lq ws (a'.put os.dst v)) l a →
      ∃ ws, Go.RowKit.Below w1.heap.size w1 ws ∧ anyG md ops (YA P w1 ws s) (s + 1) (fun listed' a' => (Region.seqB md ops g (s + 1) listed' = true ∧ Lq ws a') ∧ listed'.getD s false = true) (l.length + 1) listed a
  | [], k, listed, a, _, hk, inv, hB, h => by
    have : k = s := by simpa using hk
    subst this
    obtain ⟨v, ws, h1, h2, h3⟩ := h
    simp only [List.length_nil, Nat.zero_add, Region.lexHead, Bool.and_eq_true] at hB
    obtain ⟨⟨hr, hf⟩, hB'⟩ := hB
    refine ⟨ws, h2, ?_⟩
    exact anyG_first (Y := YA P w1 ws k) hos (Region.noSelect_spec hsel) (Nat.lt_succ_self k) hs hc hn (fun listed' a' hL => seqB_ready hL.1.1) 0 listed a inv (Region.free_spec hos hf) (by simpa using hr)
      (.inl ⟨by simp [Region.wanted, hsg], by unfold YA; rw [if_pos rfl]; exact h1⟩) ⟨⟨hB', h3⟩, by have := inv.size; simp; omega⟩
  | o :: l, k, listed, a, hl, hk, inv, hB, h => by
    have h0 : ops[k]? = some o := by simpa using (hl 0 (by simp)).symm
    rw [List.length_cons, Region.lexHead] at hB
    simp only [Bool.and_eq_true] at hB
    obtain ⟨⟨hr, hf⟩, hB'⟩ := hB
    have hkn : k < s := by simp only [List.length_cons] at hk; omega
    have hr' : k ∈ Region.ready md ops listed := by simpa using hr
    have key : ∀ v, (∀ ws, YG ops (YA P w1 ws s) k o v a) → wpV P ops w1 (fun a' => ∃ v ws, (execOp a'.eval os).run P w1 = .ok (.value v) ws ∧ Go.RowKit.Below w1.heap.size w1 ws ∧ Lq ws (a'.put os.dst v)) l (a.put o.dst v) →
        ∃ ws, Go.RowKit.Below w1.heap.size w1 ws ∧ anyG md ops (YA P w1 ws s) (s + 1) (fun listed' a' => (Region.seqB md ops g (s + 1) listed' = true ∧ Lq ws a') ∧ listed'.getD s false = true) ((o :: l).length + 1) listed a := fun v hy h => by
      obtain ⟨ws, hb, hG⟩ := anyG_lexA (Lq := Lq) hos hsg hsel hs hc hn l (k + 1) (listed.setIfInBounds k true) (a.put o.dst v) (fun j hj => by have := hl (j + 1) (by simp; omega); simpa [Nat.add_assoc, Nat.add_comm 1 j] using this)
        (by simp only [List.length_cons] at hk; omega) (inv.set hr' (by omega)) hB' h
      exact ⟨ws, hb, anyG_first h0 (Region.noSelect_spec hsel) (by omega) hs hc hn (fun listed' a' hL => seqB_ready hL.1.1) (l.length + 1) listed a inv (Region.free_spec h0 hf) hr' (hy ws) hG⟩
    unfold wpV at h
    split at h
    · rename_i hw
      obtain ⟨v, h1, h2⟩ := h
      exact key v (fun ws => .inl ⟨hw, by unfold YA; rw [if_neg (by omega)]; exact h1⟩) h2
    · rename_i hw
      exact key undef (fun ws => .inr ⟨by simpa using hw, rfl⟩) h
theorem any_of_G {n g s : Nat} {os : Oper} {w1 ws : World} {L : Array Bool → Act → Prop} {Q' : Exit → Act → World → Prop} (hos : ops[s]? = some os) (hsg : os.guard = none) (hws : Go.RowKit.Below w1.heap.size w1 ws)
    (hL : ∀ listed a, L listed a → wpAny P md ops Q' g listed a (if listed.getD s false then ws else w1)) :
    ∀ (f : Nat) (listed : Array Bool) (a : Act), anyG md ops (YA P w1 ws s) n L f listed a → wpAny P md ops Q' (f + g) listed a (if listed.getD s false then ws else w1)
  | 0, listed, a, h => by rw [Nat.zero_add]; exact hL _ _ h
  | f + 1, listed, a, h => by
    rw [show f + 1 + g = (f + g) + 1 by omega]
    refine ⟨fun h0 => absurd h0 h.1, fun i hi => ?_⟩
    have hg := (h.2 i hi).2
    have hun := (mem_ready.1 hi).1
    have hlt : i < listed.size := by
      rcases Nat.lt_or_ge i listed.size with h | h
      · exact h
      · simp [Array.getElem?_eq_none h] at hun
    have ih := any_of_G (n := n) hos hsg hws hL f (listed.setIfInBounds i true)
    by_cases his : i = s
    · subst his
      have e1 : listed.getD i false = false := getD_both hun
      have e2 : (listed.setIfInBounds i true).getD i false = true := by simp [hlt]
      rw [e1]
      rw [e2] at ih
      unfold gOp at hg
      unfold wpOp
      simp only [hos] at hg ⊢
      have hw : Region.wanted os (yielded ops a.tmps) = true := by simp [Region.wanted, hsg]
      rw [if_pos hw] at hg ⊢
      obtain ⟨v, h1, h2⟩ := hg
      unfold YA at h1
      rw [if_pos rfl] at h1
      left
      unfold Oper.wp
      simp only [Bool.false_eq_true, if_false]
      rw [h1]
      exact ih _ h2
    · have e1 : (listed.setIfInBounds i true).getD s false = listed.getD s false := getD_set_ne false his
      rw [e1] at ih
      have hb : Go.RowKit.Below w1.heap.size w1 (if listed.getD s false then ws else w1) := by
        split
        · exact hws
        · exact .refl _ _
      generalize (if listed.getD s false = true then ws else w1) = ww at ih hb ⊢
      unfold gOp at hg
      unfold wpOp
      split
      · rename_i ho; simp only [ho] at hg; exact ih _ hg
      · rename_i o ho
        simp only [ho] at hg
        split
        · rename_i hw
          simp only [hw, if_true] at hg
          obtain ⟨v, h1, h2⟩ := hg
          unfold YA at h1
          rw [if_neg his] at h1
          left
          unfold Oper.wp
          rw [h1 _ hb]
          exact ih _ h2
        · rename_i hw
          simp only [hw] at hg
          exact ih _ hg
theorem wp_region_atail {id s : Nat} {Q : Exit → Act → World → Prop} {a : Act} {w : World} {l : List Oper} {os : Oper} (hos : l[s]? = some os) (hsg : os.guard = none) (hm : P.follows .mixedOrders = true) (hB : Region.lexTailB .any l.toArray (s + 1) = true)
    (h : wpV P l.toArray { w with drawn := w.drawn + 1 } (fun a' => ∃ v ws, (execOp a'.eval os).run P { w with drawn := w.drawn + 1 } = .ok (.value v) ws ∧ Go.RowKit.Below w.heap.size { w with drawn := w.drawn + 1 } ws ∧
      wpList P l.toArray Q (l.drop (s + 1)) (a'.put os.dst v) ws) (l.take s) a) : (Code.region id l.toArray true).wp P Q a w := by
  simp only [Region.lexTailB, Bool.and_eq_true, decide_eq_true_eq] at hB
  obtain ⟨⟨⟨⟨hsel, hn⟩, hs⟩, hc⟩, hlex⟩ := hB
  have hn' : s + 1 < l.length := by simpa using hn
  have htl : (l.take s).length = s := by simp; omega
  have hdl : (l.drop (s + 1)).length = l.toArray.size - (s + 1) := by simp
  have inv0 : HeadInv .any l.toArray (s + 1) (Array.replicate l.toArray.size false) :=
    ⟨by simp, fun j oj _ hl => (by rw [getD_replicate_false] at hl; cases hl), fun t _ ht => getD_in (by simpa using ht) (getD_replicate_false _ _)⟩
  have hos' : l.toArray[s]? = some os := by simpa using hos
  obtain ⟨ws, hb, H⟩ := anyG_lexA (md := .any) (g := l.toArray.size - (s + 1)) (w1 := { w with drawn := w.drawn + 1 }) (Lq := fun ws a' => wpList P l.toArray Q (l.drop (s + 1)) a' ws) hos' hsg hsel hs hc hn (l.take s) 0 _ a (fun j hj => by
    have hj' : j < s := by rw [htl] at hj; exact hj
    simp [hj']) (by simpa using htl) inv0 (by rw [htl]; exact hlex) h
  refine wp_region_any hm ?_
  have := any_of_G (Q' := Q) (g := l.toArray.size - (s + 1)) hos' hsg hb (fun listed a' hL => by
    rw [hL.2]
    have := wpAny_of_seq (md := .any) (Q' := Q) (l.drop (s + 1)) (s + 1) listed a' ws (fun j => by simp [List.getElem?_drop]) (by rw [hdl]; exact hL.1.1) hL.1.2
    rwa [hdl] at this) _ _ _ H
  rw [htl, getD_replicate_false] at this
  simp only [Bool.false_eq_true, if_false] at this
  rw [show s + 1 + (l.toArray.size - (s + 1)) = l.toArray.size by omega] at this
  exact this
/-! The reckoning. -/
variable {T : Nat → Option TI} {S : State} {o : Oper}
def vVOp (Ω : Opq) (P : Program) (T : Nat → Option TI) (o : Oper) (S : State) (k : A → Prop) : Prop :=
  match o.op with
  | .move x => k (ev S x)
  | .assign x => k (ev S x)
  | .pick c x y => vPick Ω (ev S c) (ev S x) (ev S y) k
  | .unOp op _ x => vUn Ω op (ev S x) k
  | .binOp op t x y _ => vBinA Ω P T op t (ev S x) (ev S y) k
  | .load t x => vLoad T t S (ev S x) k
  | .fieldAddr t x i => vFieldAddr T t i (ev S x) k
  | .field t x i => vField T t i (ev S x) k
  | .indexAddr t x y => vIndexAddr Ω T t S (ev S x) (ev S y) k
  | .index t x y => vIndex Ω T t (ev S x) (ev S y) k
  | .extract x i => vExtract (ev S x) i k
  | .nilCheck x => vNilCheck (ev S x) k
  | .slice t x lo hi none => vSlice Ω T t S (ev S x) (lo.map (ev S)) (hi.map (ev S)) k
  | _ => False
theorem vVOp_ok (hT : TabOK P T) {k : A → Prop} (h : vVOp std P T o S k) : ∃ z, VOK P o S z ∧ k z := by
  unfold vVOp at h
  split at h
  · rename_i x ho; exact ⟨_, VOK_move (.inl ho) rfl, h⟩
  · rename_i x ho; exact ⟨_, VOK_move (.inr ho) rfl, h⟩
  · rename_i ho; exact vPick_ok ho h
  · rename_i ho; exact vUn_ok ho h
  · rename_i ho; exact vBinA_ok hT ho h
  · rename_i ho; exact vLoad_ok hT ho h
  · rename_i ho; exact vFieldAddr_ok hT ho h
  · rename_i ho; exact vField_ok hT ho h
  · rename_i ho; exact vIndexAddr_ok hT ho h
  · rename_i ho; exact vIndex_ok hT ho h
  · rename_i ho; exact vExtract_ok ho h
  · rename_i ho; exact vNilCheck_ok ho h
  · rename_i ho; exact vSlice_ok hT ho h
  · exact h.elim
def vVs (Ω : Opq) (P : Program) (T : Nat → Option TI) : List Oper → State → (State → Prop) → Prop
  | [], S, K => K S
  | o :: os, S, K => match o.guard with
    | none => vVOp Ω P T o S fun z => vVs Ω P T os (S.put o.dst z) K
    | some _ => False
theorem vVs_ok (hT : TabOK P T) {K : State → Prop} {Q : Act → Prop} {E : Env} {w w1 : World} (hw1 : Go.RowKit.Below w.heap.size w w1) (hQ : ∀ a S, SInv E S a w → K S → Q a) :
    ∀ (os : List Oper) (S : State), vVs std P T os S K → ∀ a, SInv E S a w → wpV P ops w1 Q os a
  | [], S, h, a, hs => hQ a S hs h
  | o :: os, S, h, a, hs => by
    unfold vVs at h
    split at h
    · rename_i hg
      obtain ⟨z, h1, h2⟩ := vVOp_ok hT h
      obtain ⟨hd, G, gs, hi⟩ := hs
      obtain ⟨v, h3, h4⟩ := h1 E G gs a w hi
      unfold wpV
      rw [if_pos (by simp [Region.wanted, hg])]
      refine ⟨v, fun w' hw' => h3 w' ?_, vVs_ok hT hw1 hQ os _ h2 _ ⟨by rw [put_defers]; exact hd, G, gs, hi.put h4 o.dst⟩⟩
      exact ⟨hw'.os.trans hw1.os, hw'.tape.trans hw1.tape, hw'.output.trans hw1.output, Nat.le_trans hw1.size hw'.size, fun b hb => (hw'.block b (Nat.lt_of_lt_of_le hb hw1.size)).trans (hw1.block b hb)⟩
    · exact h.elim
/-- A region that draws its order: s operations that only read, a slice is made, then the rest in one order. -/
theorem VC_atail (hT : TabOK P T) {Ω : Opq} (hΩ : Ω = std) (hm : P.follows .mixedOrders = true) (s : Nat) {id : Nat} {ops : Array Oper} {K : Exit → State → Prop} {os : Oper} {t : TypeId} {len : Nat} {parts : Array (Nat × Operand)}
    (hos : ops.toList[s]? = some os) (hg : os.guard = none) (hop : os.op = .buildSlice t len parts) (hB : Region.lexTailB .any ops (s + 1) = true)
    (h : vVs Ω P T (ops.toList.take s) S fun S' => vOp Ω P T none os S' fun S'' => vOps Ω P T ops.toList (madeBy os) (ops.toList.drop (s + 1)) S'' (K .normal)) : VC P (.region id ops true) S K := by
  subst hΩ
  intro E a w hs
  have hops : ops = ops.toList.toArray := by simp
  rw [hops] at hB ⊢
  have hw1 : Go.RowKit.Below w.heap.size w { w with drawn := w.drawn + 1 } := ⟨rfl, rfl, rfl, Nat.le_refl _, fun _ _ => rfl⟩
  refine wp_region_atail hos hg hm hB (vVs_ok (ops := ops.toList.toArray) hT hw1 (fun a' S' hs' hK => ?_) (ops.toList.take s) S h a hs)
  obtain ⟨hd, G, gs, hi⟩ := hs'
  have hs1 : SInv E S' a' { w with drawn := w.drawn + 1 } := ⟨hd, G, gs, hi.below hw1 (fun _ h => h) (fun _ h => .inl h) (fun b h => Nat.lt_of_lt_of_le (hi.glt b h) hw1.size)⟩
  have hwp := vOp_ok hT hK E a' { w with drawn := w.drawn + 1 } (fun a2 w2 => wpList P ops.toList.toArray (fun e a' w' => ∃ S', SInv E S' a' w' ∧ K e S') (ops.toList.drop (s + 1)) a2 w2) (fun _ _ _ => False) hs1
    (fun S2 a2 w2 hK2 hs2 => vOps_ok hT ops.toList (ops.toList.drop (s + 1)) _ S2 K hK2 E a2 w2 hs2)
  unfold Oper.wp at hwp
  have hex : execOp a'.eval os = (do pure (.value (← Instr.buildSlice t len (parts.map fun p => (p.1, a'.eval p.2)))) : Sem Next) := by simp only [execOp, hop]
  rw [hex] at hwp
  simp only [Sem.run_bind] at hwp
  generalize hr : (Instr.buildSlice t len (parts.map fun p => (p.1, a'.eval p.2))).run P { w with drawn := w.drawn + 1 } = r at hwp
  cases r with
  | halt x w' =>
    simp only [Result.andThen] at hwp
    unfold Oper.upon at hwp
    split at hwp <;> first | exact hwp.elim | (rename_i heq; cases heq)
  | ok v ws =>
    simp only [Result.andThen_ok, Sem.run_pure, Oper.upon_value] at hwp
    refine ⟨v, ws, ?_, ?_, hwp⟩
    · rw [hex, Sem.run_bind, hr]; rfl
    · have := buildSlice_below _ _ _ hr
      exact ⟨this.os, this.tape, this.output, this.size, this.block⟩
end
end Go.Fw

/- Regions that draw their order, of which some operations only read what nobody in it writes, and the others stand in one order. Plain theorems, no condition. -/
set_option linter.unusedVariables false
set_option linter.unusedSimpArgs false
namespace Go.Fw
section
variable {P : Program} {T : Nat → Option TI} {S : State} {o : Oper}
def Agree (G : Nat → Prop) (w w' : World) : Prop := ∀ b, G b → w'.heap[b]? = w.heap[b]?
/-- The operation yields a value told by x, the same one as long as what may be read stands. -/
def VOG (P : Program) (o : Oper) (S : State) (x : A) : Prop :=
  ∀ (E : Env) (G : Nat → Prop) (gs : Gh) (a : Act) (w : World), Inv E G gs S a.tmps w →
    ∃ v, (∀ w', Agree G w w' → (execOp a.eval o).run P w' = .ok (.value v) w') ∧ TRel w G S.rows gs x v []
theorem VOG_move {x : Operand} (ho : o.op = .move x ∨ o.op = .assign x) (hx : okO x = true) : VOG P o S (ev S x) :=
  fun E G gs a w hi => ⟨a.eval x, fun w' hw' => by rcases ho with h | h <;> simp [execOp, h], ev_rel hi x hx⟩
theorem VOG_load_rp {t : TypeId} {x : Operand} {xs : List A} {z : A} (ho : o.op = .load t x) (hx : okO x = true) (he : ev S x = .rp xs)
    (ha : aggT P t = some false) (hz : xs[0]? = some z) : VOG P o S z := by
  refine fun E G gs a w hi => ?_
  have h1 := ev_rel hi x hx
  rw [he] at h1
  obtain ⟨b, k, cur, e, fr, hv, hh, hg, hl⟩ := rp_inv h1
  obtain ⟨v, hv1, hv2⟩ := hl.get 0 z hz
  have hcur : cur[k]? = some v := by
    have h0 : 0 < xs.length := by
      rcases Nat.eq_zero_or_pos xs.length with h | h
      · rw [List.eq_nil_of_length_eq_zero h] at hz; simp at hz
      · exact h
    rw [List.getElem?_take_of_lt h0, List.getElem?_drop] at hv1
    simpa using hv1
  exact ⟨v, fun w' hw' => by simp [execOp, ho, Instr.loadAt, hv, Instr.sureAddr, run_loadVar_cell ha ((hw' b hg).trans hh) hcur], .of hv2⟩
theorem VOG_load_rpAgg {t : TypeId} {x : Operand} {xs : List A} {s : Nat} (ho : o.op = .load t x) (hx : okO x = true) (he : ev S x = .rp xs)
    (ha : aggT P t = some true) (hs : szT P t = some s) (hq : s ≤ xs.length) : VOG P o S (.agg (xs.take s)) := by
  refine fun E G gs a w hi => ?_
  have h1 := ev_rel hi x hx
  rw [he] at h1
  obtain ⟨b, k, cur, e, fr, hv, hh, hg, hl⟩ := rp_inv h1
  have h2 := hl.take0 s
  have h3 := h2.length
  rw [List.take_take, Nat.min_eq_left hq] at h2 h3
  exact ⟨.agg ((cur.toList.drop k).take s).toArray, by
    intro w' hw'
    simp [execOp, ho, Instr.loadAt, hv, Instr.sureAddr, run_loadVar_agg ha hs ((hw' b hg).trans hh) rfl (by rw [h3]; simp; omega)], .of (.agg h2)⟩
theorem VOG_slice_sl {t e : TypeId} {x : Operand} {lo hi : Option Operand} {n : Nat} {xs : List A} {l h : Nat} (ho : o.op = .slice t x lo hi none) (hx : okO x = true) (hlo : okOpt lo = true) (hhi : okOpt hi = true)
    (he : ev S x = .sl false n xs) (ht : elemT P t = some e) (hs : szT P e = some n) (h1 : bnd (lo.map (ev S)) 0 = some (l : Int)) (h2 : bnd (hi.map (ev S)) xs.length = some (h : Int)) (hlh : l ≤ h) (hhl : h ≤ xs.length)
    : VOG P o S (.sl false n ((xs.take h).drop l)) := by
  refine fun E G gs a w hinv => ?_
  have e1 := ev_rel hinv x hx
  rw [he] at e1
  obtain ⟨a1, a2⟩ := opt_rel hinv lo hlo
  obtain ⟨b1, b2⟩ := opt_rel hinv hi hhi
  have hu := elemT_inv ht
  rcases slf_inv e1 with ⟨⟨oa, hv⟩, rfl⟩ | ⟨b, k, cap, cur, et, fr, hv, hh, hg, hw, hrel, hcap, hm⟩
  · simp at hhl
    subst hhl
    have : l = 0 := by omega
    subst this
    have hb := slice_bounds (P := P) (isS := true) (lo.map a.eval) (hi.map a.eval) _ _ h1 h2 a1 a2 b1 b2 (by omega) (by simp) (cap := 0) (by simp)
    simp only [List.length_nil] at hb
    refine ⟨.slice oa 0 0, ?_, .of (by cases oa with | none => simpa using Rel.nils | some ad => simpa using Rel.roz)⟩
    intro w' hw'
    cases oa <;>
    simp [execOp, ho, hv, Instr.sliceAt, run_underlying hu, Instr.slice, hb, run_sizeOf hs]
  · have hb := slice_bounds (P := P) (isS := true) (lo.map a.eval) (hi.map a.eval) _ _ h1 h2 a1 a2 b1 b2 hlh hhl hcap
    have hlen : h - l = ((xs.take h).drop l).length := by simp; omega
    refine ⟨.slice (some ⟨b, if cap = l then k else k + l * n, none⟩) (h - l) (cap - l), ?_, .of (.ro hh hg (fun x hx => hw x (List.mem_of_mem_take (List.mem_of_mem_drop hx))) hlen rfl ?_ (by omega) (by omega))⟩
    · intro w' hw'
      simp [execOp, ho, hv, Instr.sliceAt, run_underlying hu, Instr.slice, hb, run_sizeOf hs]
      split <;> simp [add_none]
    · have h3 := (hrel.take0 (h * n)).drop0 (l * n)
      rw [flat_take h hw, flat_drop l (fun x hx => hw x (List.mem_of_mem_take hx))] at h3
      have hle : h * n ≤ xs.length * n := Nat.mul_le_mul_right _ hhl
      have e4 : List.drop (l * n) (List.take (h * n) (List.take (xs.length * n) (cur.toList.drop k))) = (cur.toList.drop (k + l * n)).take ((h - l) * n) := by
        rw [List.take_take, Nat.min_eq_left hle, List.drop_take, List.drop_drop, ← Nat.sub_mul]
      rw [e4] at h3
      split
      · rename_i hc
        have h0 : h - l = 0 := by omega
        rw [h0] at h3 ⊢
        simpa using h3
      · exact h3
theorem VOG_binOp {op : BinOp} {t t' : TypeId} {x y : Operand} {u v : Value} (ho : o.op = .binOp op t x y t') (hx : okO x = true) (hy : okO y = true)
    (h1 : ev S x = .sc u) (h2 : ev S y = .sc v) (h : (binS P op t u v).1) : VOG P o S (.sc (binS P op t u v).2) := by
  refine fun E G gs a w hi => ?_
  have e1 := ev_rel hi x hx
  have e2 := ev_rel hi y hy
  rw [h1] at e1
  rw [h2] at e2
  have v1 := (sc_inv e1).1
  have v2 := (sc_inv e2).1
  refine ⟨_, fun w' hw' => ?_, .of (.sc (binS_run h x y w).2)⟩
  have hr := (binS_run h x y w').1
  simp only [execOp, ho, v1, v2, Sem.run_bind] at hr ⊢
  rw [hr]
  rfl
theorem VOG_makeFunc {fn : FuncId} {first caps : Array Operand} (ho : o.op = .makeFunc (.func fn) first caps) (hf : first.toList = []) (hg : fn < 1000000) : VOG P o S (.clo fn (caps.toList.map (ev S))) := by
  refine fun E G gs a w hi => ⟨mkFn fn (caps.toList.map a.eval), fun w' hw' => ?_, .clo (evs_rel hi caps.toList)⟩
  have : first = #[] := by apply Array.toList_inj.1; simpa using hf
  subst this
  have e : (caps.toList.map a.eval).toArray = caps.map a.eval := by apply Array.toList_inj.1; simp
  unfold mkFn
  rw [if_pos hg, e]
  simp [execOp, ho, Instr.makeFunc]
theorem vBin_sc (hT : TabOK P T) {k : A → Prop} {op : BinOp} {t : TypeId} {x y : A} (h : vBin std T op t x y k) : ∃ u v, x = .sc u ∧ y = .sc v ∧ (binS P op t u v).1 ∧ k (.sc (binS P op t u v).2) := by
  unfold vBin at h
  split at h <;> try exact h.elim
  · rename_i ka a kb b
    have go : (binS P op t (.int ka a) (.int kb b)).1 → k (.sc (binS P op t (.int ka a) (.int kb b)).2) → ∃ u v, A.sc (.int ka a) = .sc u ∧ A.sc (.int kb b) = .sc v ∧ (binS P op t u v).1 ∧ k (.sc (binS P op t u v).2) := fun hc hk => ⟨_, _, rfl, rfl, hc, hk⟩
    unfold vBinI at h
    split at h
    · exact go h.1.h h.2
    · exact go h.1.h h.2
    · split at h <;> try exact h.elim
      rename_i hk
      subst hk
      split at h
      · exact go rfl h
      · exact go rfl h
      · exact go rfl h
      · exact go rfl h
      · exact go rfl h
      · exact go rfl h
      · exact go rfl h
      · exact go ⟨rfl, h.1.h⟩ h.2
      · exact go ⟨rfl, h.1.h⟩ h.2
      · cases op <;> first | exact go rfl h | simp_all
  · rename_i a b
    have go : (binS P op t (.string a) (.string b)).1 → k (.sc (binS P op t (.string a) (.string b)).2) → ∃ u v, A.sc (.string a) = .sc u ∧ A.sc (.string b) = .sc v ∧ (binS P op t u v).1 ∧ k (.sc (binS P op t u v).2) := fun hc hk => ⟨_, _, rfl, rfl, hc, hk⟩
    unfold vBinS at h
    split at h <;> try exact h.elim
    · exact go h.1.h h.2
    all_goals exact go trivial h
  · rename_i a b
    split at h <;> try exact h.elim
    · rename_i i hi
      split at h <;> try exact h.elim
      rename_i hb
      exact ⟨_, _, rfl, rfl, by rw [← (tiOf_ok (hT _ _ hi)).bool] at hb; exact hb, h⟩
    · rename_i i hi
      split at h <;> try exact h.elim
      rename_i hb
      exact ⟨_, _, rfl, rfl, by rw [← (tiOf_ok (hT _ _ hi)).bool] at hb; exact hb, h⟩
/-- What an operation reads that nobody writes. -/
def vGOp (Ω : Opq) (T : Nat → Option TI) (o : Oper) (S : State) (k : A → Prop) : Prop :=
  match o.op with
  | .move x => k (ev S x)
  | .assign x => k (ev S x)
  | .binOp op t x y _ => vBin Ω T op t (ev S x) (ev S y) k
  | .load t x => (match T t, ev S x with
    | some i, .rp xs => if i.ag then (if i.sz ≤ xs.length then k (.agg (xs.take i.sz)) else False) else (match xs[0]? with
      | some z => k z
      | none => False)
    | _, _ => False)
  | .slice t x lo hi none => (match ev S x, szEl T t with
    | .sl false n xs, some (_, ei) => if ei.sz = n then vLo Ω (lo.map (ev S)) 0 fun c1 l => vLo Ω (hi.map (ev S)) (Ω.len xs) fun c2 h => Ob (fun _ => c1 () ∧ c2 () ∧ l ≤ h ∧ h ≤ xs.length) ∧ k (.sl false n (Ω.seg l h xs)) else False
    | _, _ => False)
  | .makeFunc (.func g) first caps => (match first.toList with
    | [] => if g < 1000000 then k (.clo g (caps.toList.map (ev S))) else False
    | _ => False)
  | _ => False
theorem vGOp_ok (hT : TabOK P T) {k : A → Prop} (h : vGOp std T o S k) : ∃ z, VOG P o S z ∧ k z := by
  have ok : ∀ x : Option Operand, okOpt x = true := fun x => by cases x <;> rfl
  unfold vGOp at h
  split at h
  · rename_i x ho; exact ⟨_, VOG_move (.inl ho) rfl, h⟩
  · rename_i x ho; exact ⟨_, VOG_move (.inr ho) rfl, h⟩
  · rename_i ho
    obtain ⟨u, v, h1, h2, h3, h4⟩ := vBin_sc hT h
    exact ⟨_, VOG_binOp ho rfl rfl h1 h2 h3, h4⟩
  · rename_i t x ho
    split at h <;> try exact h.elim
    rename_i i xs hi hx
    have hti := tiOf_ok (hT _ _ hi)
    split at h
    · rename_i hag
      split at h <;> try exact h.elim
      rename_i hle
      exact ⟨_, VOG_load_rpAgg ho rfl hx (by rw [hti.ag, hag]) hti.sz hle, h⟩
    · rename_i hag
      split at h <;> try exact h.elim
      rename_i z hz
      exact ⟨_, VOG_load_rp ho rfl hx (by rw [hti.ag]; simpa using hag) hz, h⟩
  · rename_i t x lo hi ho
    split at h <;> try exact h.elim
    rename_i n xs e ei hx hs
    obtain ⟨he, hei⟩ := szEl_ok hT hs
    split at h <;> try exact h.elim
    rename_i hn
    obtain ⟨c1, l, h, g1⟩ := vLo_ok h
    obtain ⟨c2, u, h, g2⟩ := vLo_ok h
    obtain ⟨h0, h⟩ := h
    obtain ⟨h1, h2, h3, h4⟩ := h0.h
    exact ⟨_, VOG_slice_sl ho rfl (ok _) (ok _) hx he (by rw [hei.sz, hn]) (g1 h1) (g2 h2) h3 h4, h⟩
  · rename_i g first caps ho
    split at h <;> try exact h.elim
    rename_i hf
    split at h <;> try exact h.elim
    rename_i hg
    exact ⟨_, VOG_makeFunc ho hf hg, h⟩
  · exact h.elim
def vGs (Ω : Opq) (T : Nat → Option TI) (ops : List Oper) : List Nat → State → (State → Prop) → Prop
  | [], S, K => K S
  | q :: qs, S, K => match ops[q]? with
    | some o => (match o.guard with
      | none => vGOp Ω T o S fun z => vGs Ω T ops qs (S.put o.dst z) K
      | some _ => False)
    | none => False
def vNs (Ω : Opq) (P : Program) (T : Nat → Option TI) (ops : List Oper) : Option Nat → List Nat → State → (State → Prop) → Prop
  | _, [], S, K => K S
  | mv, n :: ns, S, K => match ops[n]? with
    | some o => (match o.guard with
      | none => vOp Ω P T mv o S fun S' => vNs Ω P T ops (madeBy o) ns S' K
      | some _ => False)
    | none => False
def heldN (ops : Array Oper) : List Nat → Array Bool → Bool
  | [], l => (Region.ready .any ops l).isEmpty
  | n :: ns, l => decide (Region.ready .any ops l = [n]) && heldN ops ns (l.setIfInBounds n true)
def heldQ (ops : Array Oper) (ns : List Nat) : List Nat → Array Bool → Bool
  | [], l => heldN ops ns l
  | q :: qs, l => (Region.ready .any ops l).contains q && Region.free .any ops l q && heldQ ops ns qs (l.setIfInBounds q true)
def heldB (ops : Array Oper) (qs ns : List Nat) : Bool :=
  Region.noSelect ops && decide (qs.length + ns.length = ops.size) && heldQ ops ns qs (Array.replicate ops.size false)
/-- The surroundings from the region's own beginning on. -/
def envAt (E : Env) (G : Nat → Prop) (gs : Gh) (S : State) (w : World) : Env :=
  ⟨w, G, fun b => ∃ r row, rowAt S.rows r = some row ∧ b ∈ gs.all r, E.gv⟩
theorem Inv.at {E : Env} {G : Nat → Prop} {gs : Gh} {tmps : Array Value} {w : World} (hi : Inv E G gs S tmps w) : Inv (envAt E G gs S w) G gs S tmps w :=
  ⟨fun _ _ _ => rfl, rfl, rfl, rfl, Nat.le_refl _, hi.sz, fun _ h => h, fun _ h => .inl h, hi.glt, hi.row, hi.nod, fun r row hr b hb => ⟨(hi.own r row hr b hb).1, .inl ⟨r, row, hr, hb⟩⟩, hi.dis, hi.tmp⟩
theorem Inv.back {E : Env} {G G' : Nat → Prop} {gs gs' : Gh} {S' : State} {tmps tmps' : Array Value} {w w' : World} (hi : Inv E G gs S tmps w) (hi' : Inv (envAt E G gs S w) G' gs' S' tmps' w') : Inv E G' gs' S' tmps' w' := by
  have hfin : ∀ b, (∃ r row, rowAt S.rows r = some row ∧ b ∈ gs.all r) → E.Fin b ∨ E.w0.heap.size ≤ b := fun b ⟨r, row, hr, hb⟩ => (hi.own r row hr b hb).2
  refine ⟨fun b h hf => ?_, hi'.os.trans hi.os, hi'.tape.trans hi.tape, hi'.output.trans hi.output, Nat.le_trans hi.size hi'.size, hi'.sz, fun b h => hi'.gsub b (hi.gsub b h), fun b h => ?_, hi'.glt, hi'.row, hi'.nod, fun r row hr b hb => ?_, hi'.dis, hi'.tmp⟩
  · rw [hi'.keep b (Nat.lt_of_lt_of_le h hi.size) fun hb => by
      rcases hfin b hb with h1 | h1
      · exact hf h1
      · omega]
    exact hi.keep b h hf
  · rcases hi'.gnew b h with h1 | h1
    · exact hi.gnew b h1
    · exact .inr (Nat.le_trans hi.size h1)
  · refine ⟨(hi'.own r row hr b hb).1, ?_⟩
    rcases (hi'.own r row hr b hb).2 with h1 | h1
    · exact hfin b h1
    · exact .inr (Nat.le_trans hi.size h1)
theorem Inv.agree {E : Env} {G G' : Nat → Prop} {gs gs' : Gh} {S' : State} {tmps tmps' : Array Value} {w w' : World} (hi : Inv E G gs S tmps w) (hi' : Inv (envAt E G gs S w) G' gs' S' tmps' w') : Agree G w w' := fun b hb =>
  hi'.keep b (hi.glt b hb) fun ⟨r, row, hr, h⟩ => (hi.own r row hr b h).1 hb
theorem heldN_ok (hT : TabOK P T) {ops : List Oper} {E : Env} {Sc : World → Prop} (hSc : ∀ S a w, SInv E S a w → Sc w) {K : State → Prop} : ∀ (ns : List Nat) (listed : Array Bool) (mv : Option Nat) (S : State) (a : Act) (w : World), heldN ops.toArray ns listed = true →
    vNs std P T ops mv ns S K → SInv E S a w → wpAnyH P .any ops.toArray (fun e a' w' => e = .normal ∧ ∃ S', SInv E S' a' w' ∧ K S') Sc ns.length listed a w
  | [], listed, mv, S, a, w, hB, h, hs => ⟨by simpa [heldN] using hB, rfl, S, hs, h⟩
  | n :: ns, listed, mv, S, a, w, hB, h, hs => by
    simp only [heldN, Bool.and_eq_true, decide_eq_true_eq] at hB
    unfold vNs at h
    split at h <;> try exact h.elim
    rename_i o ho
    split at h <;> try exact h.elim
    rename_i hg
    refine wpAnyH_all hB.1 (by simp) fun i hi => ?_
    have hin : i = n := by simpa using hi
    subst hin
    unfold wpOp
    rw [show ops.toArray[i]? = some o by simpa using ho]
    simp only
    rw [if_pos (by simp [Region.wanted, hg])]
    exact .inl (vOp_ok hT h E a w _ _ hs fun S' a' w' hK hs' => ⟨hSc _ _ _ hs', heldN_ok hT hSc ns _ _ S' a' w' hB.2 hK hs'⟩)
theorem heldQ_ok (hT : TabOK P T) {ops : List Oper} {E : Env} {G : Nat → Prop} {gs : Gh} {w : World} {Q : Exit → Act → World → Prop} (hQ : ∀ c a w, ¬ Q (.panic c) a w) (hsel : Region.noSelect ops.toArray = true) {ns : List Nat} {K : State → Prop}
    (hK : ∀ S a listed, heldN ops.toArray ns listed = true → K S → a.defers = [] → Inv E G gs S a.tmps w → wpAnyH P .any ops.toArray Q (Agree G w) ns.length listed a w) : ∀ (qs : List Nat) (listed : Array Bool) (S : State) (a : Act), heldQ ops.toArray ns qs listed = true →
    vGs std T ops qs S K → a.defers = [] → Inv E G gs S a.tmps w → wpAnyH P .any ops.toArray Q (Agree G w) (qs.length + ns.length) listed a w
  | [], listed, S, a, hB, h, hd, hi => by rw [List.length_nil, Nat.zero_add]; exact hK S a listed hB h hd hi
  | q :: qs, listed, S, a, hB, h, hd, hi => by
    simp only [heldQ, Bool.and_eq_true] at hB
    unfold vGs at h
    split at h <;> try exact h.elim
    rename_i o ho
    split at h <;> try exact h.elim
    rename_i hg
    obtain ⟨z, h1, h2⟩ := vGOp_ok hT h
    obtain ⟨v, h3, h4⟩ := h1 E G gs a w hi
    rw [List.length_cons, show qs.length + 1 + ns.length = (qs.length + ns.length) + 1 by omega]
    refine wpAnyH_take (oi := o) (v := v) (by simpa using ho) hsel hB.1.2 hB.1.1 (fun c a w h => (hQ _ _ _ h).elim) (.inl ⟨by simp [Region.wanted, hg], h3⟩) (fun _ _ => rfl) ?_
    exact heldQ_ok hT hQ hsel hK qs _ _ _ hB.2 h2 (by rw [put_defers]; exact hd) (hi.put h4 o.dst)
/-- A region that draws its order: the operations qs only read what nobody in it writes; the others, ns, stand in one order. -/
theorem VC_held (hT : TabOK P T) {Ω : Opq} (hΩ : Ω = std) (hm : P.follows .mixedOrders = true) (qs ns : List Nat) {id : Nat} {ops : Array Oper} {K : Exit → State → Prop} (hB : heldB ops qs ns = true)
    (h : vGs Ω T ops.toList qs S fun S' => vNs Ω P T ops.toList none ns S' (K .normal)) : VC P (.region id ops true) S K := by
  subst hΩ
  intro E a w hs
  have hops : ops = ops.toList.toArray := by simp
  rw [hops] at hB ⊢
  obtain ⟨hd, G, gs, hi⟩ := hs
  simp only [heldB, Bool.and_eq_true, decide_eq_true_eq] at hB
  obtain ⟨⟨hsel, hsz⟩, hB⟩ := hB
  have hw1 : Go.RowKit.Below w.heap.size w { w with drawn := w.drawn + 1 } := ⟨rfl, rfl, rfl, Nat.le_refl _, fun _ _ => rfl⟩
  have hi1 : Inv E G gs S a.tmps { w with drawn := w.drawn + 1 } := hi.below hw1 (fun _ h => h) (fun _ h => .inl h) (fun b h => Nat.lt_of_lt_of_le (hi.glt b h) hw1.size)
  have hwp : (Code.region id ops.toList.toArray true).wp P (fun e a' w' => e = .normal ∧ ∃ S', SInv (envAt E G gs S { w with drawn := w.drawn + 1 }) S' a' w' ∧ K .normal S') a w := by
    refine wp_region_held (S := Agree G { w with drawn := w.drawn + 1 }) hm ?_
    rw [show ops.toList.toArray.size = qs.length + ns.length from hsz.symm]
    rw [show ops.toList.toArray.size = qs.length + ns.length from hsz.symm] at hB
    refine heldQ_ok hT (fun c a w h => by cases h.1) hsel (fun S2 a2 listed hB2 hK2 hd2 hi2 => ?_) qs _ S a hB h hd hi1.at
    refine heldN_ok hT (fun S3 a3 w3 hs3 => ?_) ns listed none S2 a2 _ hB2 hK2 ⟨hd2, G, gs, hi2⟩
    obtain ⟨_, G3, gs3, hi3⟩ := hs3
    exact hi1.agree hi3
  refine wp_mono hwp ?_
  rintro e a' w' ⟨rfl, S', ⟨hd', G', gs', hi'⟩, hK'⟩
  exact ⟨S', ⟨hd', G', gs', hi1.back hi'⟩, hK'⟩
end
end Go.Fw

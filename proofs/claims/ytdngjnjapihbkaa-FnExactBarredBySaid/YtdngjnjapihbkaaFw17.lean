/- What must hold ahead of a code, reckoned step by step: definitions. No theorem of the program. -/
import Derived.Test.YtdngjnjapihbkaaFwC
set_option linter.unusedVariables false
set_option linter.unusedSimpArgs false
namespace Go.Fw

/-- What is known of a type. -/
structure TI where
  sz : Nat
  bytes : Nat
  el : Option Nat
  ag : Bool
  str : Bool
  bool : Bool
  fs : List (Nat × Nat × Bool)
  z : Option Value
  kind : Option IntKind
def fsT (P : Program) (t : TypeId) : List (Nat × Nat × Bool) :=
  match P.underlying t with
  | some (.struct fs) => (List.range fs.size).map fun i => (fieldT P t i).getD (0, 0, false)
  | _ => []
def tiOf (P : Program) (t : TypeId) : Option TI :=
  match szT P t, aggT P t with
  | some s, some g =>
    if (List.range (fsT P t).length).all (fun i => (fieldT P t i).isSome) && ((fsT P t).isEmpty || placesT P t) then
      some ⟨s, bytesT P t, elemT P t, g, isStrT P t, isBoolT P t, fsT P t, (match zeroT P t with | some v => if okV v then some v else none | none => none), kindT P t⟩
    else none
  | _, _ => none

/-- The reckoning on what is not known is kept shut. -/
structure Opq where
  ar : BinOp → IntKind → Int → Int → Int
  cmp : BinOp → Int → Int → Bool
  neg : IntKind → Int → Int
  cmpS : BinOp → List UInt8 → List UInt8 → Bool
  cmpB : BinOp → Bool → Bool → Bool
  cat : List UInt8 → List UInt8 → List UInt8
  not : Bool → Bool
  ite : Bool → Bool → Bool → Bool
  itA : Bool → A → A → A
  len : List A → Nat
  lenS : List UInt8 → Nat
  int : Nat → Int
  nat : Int → Nat
  plus : Nat → Nat → Nat
  minus : Nat → Nat → Nat
  seg : Nat → Nat → List A → List A
  segS : Nat → Nat → List UInt8 → List UInt8
  take : Nat → List A → List A
  app : List A → List A → List A
  rep : Nat → A → List A
  set : List A → Nat → A → List A
  frz : List A → List A
  u8 : UInt8 → Int
  wrap : IntKind → Int → Int
  cloN : Nat → Nat
  cloA : Nat → List A → List A → List A
def arS (op : BinOp) (k : IntKind) (x y : Int) : Int :=
  match op with
  | .add => k.wrap (x + y)
  | .sub => k.wrap (x - y)
  | .mul => k.wrap (x * y)
  | .quo => k.wrap (x.tdiv y)
  | .rem => x.tmod y
  | .shl => k.wrap (x * 2 ^ y.toNat)
  | .shr => x / 2 ^ y.toNat
  | op => bits op k x y
def cmpIS (op : BinOp) (x y : Int) : Bool :=
  match op with
  | .eql => x == y
  | .neq => x != y
  | .lss => decide (x < y)
  | .leq => decide (x ≤ y)
  | .gtr => decide (x > y)
  | _ => decide (x ≥ y)
def cmpSS (op : BinOp) (x y : List UInt8) : Bool :=
  match op with
  | .eql => x == y
  | .neq => x != y
  | .lss => Op.bytesLess x y
  | .leq => Op.bytesLess x y || x == y
  | .gtr => !(Op.bytesLess x y || x == y)
  | _ => !(Op.bytesLess x y)
def std : Opq where
  ar := arS
  cmp := cmpIS
  neg := fun k n => k.wrap (0 - n)
  cmpS := cmpSS
  cmpB := fun op x y => match op with | .eql => x == y | _ => x != y
  cat := fun x y => x ++ y
  not := fun b => !b
  ite := fun b x y => if b then x else y
  itA := fun b x y => if b then x else y
  len := List.length
  lenS := List.length
  int := fun n => (n : Int)
  nat := Int.toNat
  plus := fun m n => m + n
  minus := fun m n => m - n
  seg := fun l h xs => (xs.take h).drop l
  segS := fun l h xs => (xs.take h).drop l
  take := fun n xs => xs.take n
  app := fun x y => x ++ y
  rep := List.replicate
  set := fun xs j x => xs.set j x
  frz := fun xs => xs.map Fw.frz
  u8 := fun c => (c.toNat : Int)
  wrap := fun k n => k.wrap n
  cloN := Fw.cloN
  cloA := Fw.cloA

/-- A thing to show; looked at by nobody else. -/
structure Ob (f : Unit → Prop) : Prop where
  h : f ()
/-- A loop, or any code that is taken by hand. -/
structure VCX (P : Program) (c : Code) (S : State) (K : Exit → State → Prop) : Prop where
  h : VC P c S K
structure CallX (P : Program) (g : Nat) (args : List A) (S : State) (K : A → State → Prop) : Prop where
  h : CallOK P g args S K
structure HardX (P : Program) (o : Oper) (S : State) (K : State → Prop) : Prop where
  h : opOK P o S K
def brB (p : Bool) (X Y : Unit → Prop) : Prop := match p with | true => X () | false => Y ()

def vPick (Ω : Opq) (c x y : A) (k : A → Prop) : Prop :=
  match c with
  | .sc (.bool b) => (match x, y with
    | .sc (.bool p), .sc (.bool q) => k (.sc (.bool (Ω.ite b p q)))
    | x, y => brB b (fun _ => k x) (fun _ => k y))
  | _ => False
def vUn (Ω : Opq) (op : UnOp) (x : A) (k : A → Prop) : Prop :=
  match op, x with
  | .not, .sc (.bool b) => k (.sc (.bool (Ω.not b)))
  | .neg, .sc (.int kk n) => k (.sc (.int kk (Ω.neg kk n)))
  | _, _ => False
def vBinI (Ω : Opq) (op : BinOp) (kk : IntKind) (a : Int) (kl : IntKind) (b : Int) (k : A → Prop) : Prop :=
  match op with
  | .shl => Ob (fun _ => 0 ≤ b ∧ b ≤ kk.bits) ∧ k (.sc (.int kk (Ω.ar .shl kk a b)))
  | .shr => Ob (fun _ => 0 ≤ b ∧ b ≤ kk.bits) ∧ k (.sc (.int kk (Ω.ar .shr kk a b)))
  | op => if kk = kl then (match op with
    | .add => k (.sc (.int kk (Ω.ar .add kk a b)))
    | .sub => k (.sc (.int kk (Ω.ar .sub kk a b)))
    | .mul => k (.sc (.int kk (Ω.ar .mul kk a b)))
    | .and => k (.sc (.int kk (Ω.ar .and kk a b)))
    | .or => k (.sc (.int kk (Ω.ar .or kk a b)))
    | .xor => k (.sc (.int kk (Ω.ar .xor kk a b)))
    | .andNot => k (.sc (.int kk (Ω.ar .andNot kk a b)))
    | .quo => Ob (fun _ => b ≠ 0) ∧ k (.sc (.int kk (Ω.ar .quo kk a b)))
    | .rem => Ob (fun _ => b ≠ 0) ∧ k (.sc (.int kk (Ω.ar .rem kk a b)))
    | op => k (.sc (.bool (Ω.cmp op a b)))) else False
def vBinS (Ω : Opq) (op : BinOp) (a b : List UInt8) (k : A → Prop) : Prop :=
  match op with
  | .add => Ob (fun _ => ((a.length + b.length : Nat) : Int) ≤ 9223372036854775807) ∧ k (.sc (.string (mkS (Ω.cat a b))))
  | .eql => k (.sc (.bool (Ω.cmpS .eql a b)))
  | .neq => k (.sc (.bool (Ω.cmpS .neq a b)))
  | .lss => k (.sc (.bool (Ω.cmpS .lss a b)))
  | .leq => k (.sc (.bool (Ω.cmpS .leq a b)))
  | .gtr => k (.sc (.bool (Ω.cmpS .gtr a b)))
  | .geq => k (.sc (.bool (Ω.cmpS .geq a b)))
  | _ => False
def vBin (Ω : Opq) (T : Nat → Option TI) (op : BinOp) (t : TypeId) (x y : A) (k : A → Prop) : Prop :=
  match x, y with
  | .sc (.int ka a), .sc (.int kb b) => vBinI Ω op ka a kb b k
  | .sc (.string a), .sc (.string b) => vBinS Ω op (bs a) (bs b) k
  | .sc (.bool a), .sc (.bool b) => (match T t, op with
    | some i, .eql => if i.bool then k (.sc (.bool (Ω.cmpB .eql a b))) else False
    | some i, .neq => if i.bool then k (.sc (.bool (Ω.cmpB .neq a b))) else False
    | _, _ => False)
  | _, _ => False
/-- Two structs. -/
structure EqX (P : Program) (op : BinOp) (t : TypeId) (xs ys : List A) (k : A → Prop) : Prop where
  h : ∃ (us vs : List Value) (b : Bool), xs = us.map A.sc ∧ ys = vs.map A.sc ∧ (∀ (x y : Operand) (w : World), (do eqGuard op t x y (.agg us.toArray) (.agg vs.toArray); binOp op t (.agg us.toArray) (.agg vs.toArray) : Sem Value).run P w = .ok (.bool b) w) ∧ k (.sc (.bool b))
def vBinA (Ω : Opq) (P : Program) (T : Nat → Option TI) (op : BinOp) (t : TypeId) (x y : A) (k : A → Prop) : Prop :=
  match x, y with
  | .agg xs, .agg ys => EqX P op t xs ys k
  | x, y => vBin Ω T op t x y k
def vBinN (Ω : Opq) (P : Program) (T : Nat → Option TI) (op : BinOp) (t : TypeId) (x y : A) (k : A → Prop) : Prop :=
  match x, y with
  | .sl false _ xs, .nil => (match T t, op with
    | some i, .eql => if i.el.isSome then ∀ b, (b = true → xs = []) → k (.sc (.bool b)) else False
    | some i, .neq => if i.el.isSome then ∀ b, (b = false → xs = []) → k (.sc (.bool b)) else False
    | _, _ => False)
  | x, y => vBinA Ω P T op t x y k
def vLen (Ω : Opq) (T : Nat → Option TI) (t : TypeId) (x : A) (k : A → Prop) : Prop :=
  match T t with
  | some i => (match x with
    | .nil => if i.el.isSome && !i.str then k (.sc (.int .i64 0)) else False
    | .sl false _ xs => if i.el.isSome && !i.str then k (.sc (.int .i64 (Ω.int (Ω.len xs)))) else False
    | .vw _ _ len => if i.el.isSome && !i.str then k (.sc (.int .i64 (Ω.int len))) else False
    | .sc (.string s) => if i.str then k (.sc (.int .i64 (Ω.int (Ω.lenS (bs s))))) else False
    | _ => False)
  | none => False
def vCell (i : TI) (n : Nat) (y : A) (q : Nat) (k : A → Prop) : Prop :=
  if i.ag then (if q + i.sz ≤ n then (if ((y.cells.drop q).take i.sz).all noOwn then k (.agg ((y.cells.drop q).take i.sz)) else False) else False)
  else match y.cells[q]? with
    | some z => if noOwn z then k z else False
    | none => False
def vCellS (Ω : Opq) (i : TI) (S : State) (r j : Nat) (row : Row) (y : A) (q : Nat) (k : A → State → Prop) : Prop :=
  if i.ag then (if q + i.sz ≤ row.n then (if ((y.cells.drop q).take i.sz).all noOwn then k (.agg ((y.cells.drop q).take i.sz)) S else False) else False)
  else match y.cells[q]? with
    | some (.sl true n ys) => k (.vw S.rows.length 0 (Ω.len ys)) ((S.setRow r ⟨row.n, Ω.set row.xs j (newElem y q [.un]), false⟩).addRow ⟨n, ys, false⟩)
    | some z => if noOwn z then k z S else False
    | none => False
def vLoad (T : Nat → Option TI) (t : TypeId) (S : State) (x : A) (k : A → Prop) : Prop :=
  match T t with
  | some i => (match x with
    | .rp xs => if i.ag then (if i.sz ≤ xs.length then k (.agg (xs.take i.sz)) else False) else (match xs[0]? with
      | some z => k z
      | none => False)
    | .pt r j q => (match rowAt S.rows r with
      | some row => (match row.lk with
        | true => (match row.xs[j]? with
          | some y => vCell i row.n y q k
          | none => False)
        | false => ∃ y, row.xs[j]? = some y ∧ vCell i row.n y q k)
      | none => False)
    | _ => False)
  | none => False
/-- A load; an own slice in an own row of data is taken out of it. -/
def vLoadS (Ω : Opq) (T : Nat → Option TI) (t : TypeId) (S : State) (x : A) (k : A → State → Prop) : Prop :=
  match T t with
  | some i => (match x with
    | .rp xs => if i.ag then (if i.sz ≤ xs.length then k (.agg (xs.take i.sz)) S else False) else (match xs[0]? with
      | some z => k z S
      | none => False)
    | .pt r j q => (match rowAt S.rows r with
      | some row => (match row.lk with
        | true => (match row.xs[j]? with
          | some y => vCell i row.n y q fun z => k z S
          | none => False)
        | false => ∃ y, row.xs[j]? = some y ∧ vCellS Ω i S r j row y q k)
      | none => False)
    | _ => False)
  | none => False
def vFieldAddr (T : Nat → Option TI) (t : TypeId) (i : Nat) (x : A) (k : A → Prop) : Prop :=
  match T t with
  | some ti => (match ti.fs[i]? with
    | some (off, s, _) => if s = 0 then False else (match x with
      | .pt r j q => k (.pt r j (q + off))
      | .rp xs => k (.rp (xs.drop off))
      | _ => False)
    | none => False)
  | none => False
def vField (T : Nat → Option TI) (t : TypeId) (i : Nat) (x : A) (k : A → Prop) : Prop :=
  match T t, x with
  | some ti, .agg xs => (match ti.fs[i]? with
    | some (off, s, g) => if off + s ≤ xs.length then (if g then k (.agg ((xs.drop off).take s)) else if s = 1 then k (xs.getD off .un) else False) else False
    | none => False)
  | _, _ => False
def szEl (T : Nat → Option TI) (t : TypeId) : Option (Nat × TI) :=
  match T t with
  | some i => (match i.el with
    | some e => (match T e with
      | some j => some (e, j)
      | none => none)
    | none => none)
  | none => none
def vIndexAddr (Ω : Opq) (T : Nat → Option TI) (t : TypeId) (S : State) (x y : A) (k : A → Prop) : Prop :=
  match szEl T t, y with
  | some (_, ti), .sc (.int _ i) => (match x with
    | .vw r off len => (match rowAt S.rows r with
      | some row => if ti.sz = row.n then Ob (fun _ => 0 ≤ i ∧ i < len) ∧ k (.pt r (Ω.plus off (Ω.nat i)) 0) else False
      | none => False)
    | .sl false n xs => if ti.sz = n then Ob (fun _ => 0 ≤ i) ∧ ∃ z, xs[i.toNat]? = some z ∧ k (.rp z.cells) else False
    | _ => False)
  | _, _ => False
def vIndex (Ω : Opq) (T : Nat → Option TI) (t : TypeId) (x y : A) (k : A → Prop) : Prop :=
  match T t, x, y with
  | some ti, .sc (.string s), .sc (.int _ i) => if ti.str then Ob (fun _ => 0 ≤ i) ∧ ∃ c, (bs s)[i.toNat]? = some c ∧ k (.sc (.int .u8 (Ω.u8 c))) else False
  | _, _, _ => False
def vExtract (x : A) (i : Nat) (k : A → Prop) : Prop :=
  match x with
  | .tup xs => (match xs[i]? with
    | some z => k z
    | none => False)
  | _ => False
def vNilCheck (x : A) (k : A → Prop) : Prop :=
  match x with
  | .pt r j q => k (.pt r j q)
  | .rp xs => k (.rp xs)
  | _ => False
def vBox (S : State) (x : A) (k : A → State → Prop) : Prop :=
  if x.cells.all okCell then k (.pt S.rows.length 0 0) (S.addRow ⟨x.width, [x], true⟩) else False
def vAlloc (T : Nat → Option TI) (t : TypeId) (S : State) (k : A → State → Prop) : Prop :=
  match T t with
  | some i => (match i.z with
    | some z => k (.pt S.rows.length 0 0) (S.addRow ⟨(constA z).width, [constA z], true⟩)
    | none => False)
  | none => False
def fillF (fs : List (Nat × Nat × Bool)) : List A → List (Nat × A) → Option (List A)
  | cells, [] => some cells
  | cells, (i, x) :: rest =>
    match fs[i]? with
    | none => none
    | some (off, s, _) =>
      if x.cells.length = s then (if off + s ≤ cells.length then fillF fs (cells.take off ++ x.cells ++ cells.drop (off + s)) rest else none) else none
def vBuild (T : Nat → Option TI) (t : TypeId) (parts : List (Nat × A)) (k : A → Prop) : Prop :=
  match T t with
  | some i => (match i.z with
    | some (.agg z) => if i.fs.isEmpty then False else if parts.all (fun p => p.2.cells.all okCell) then (match fillF i.fs (z.toList.map cellA) parts with
      | some res => k (.agg res)
      | none => False) else False
    | _ => False)
  | none => False
def isVw : A → Bool
  | .vw _ _ _ => true
  | _ => false
/-- Values on their way into memory. -/
def vStash (Ω : Opq) : Nat → State → List A → (List A → State → List Nat → Prop) → Prop
  | _, S, [], k => k [] S []
  | 0, _, _ :: _, _ => False
  | n + 1, S, x :: xs, k =>
    match x with
    | .vw r off len => (match rowAt S.rows r with
      | some row => if row.lk then False else Ob (fun _ => off = 0 ∧ len ≤ row.xs.length) ∧ vStash Ω n (S.turn r none) (xs.map (kill r)) fun ys S' ks => k (.sl true row.n (Ω.take len row.xs) :: ys) S' (r :: ks)
      | none => False)
    | x => if isData x then vStash Ω n S xs fun ys S' ks => k (x :: ys) S' ks else False
def isAggN (n : Nat) : A → Bool
  | .agg xs => xs.length == n
  | _ => false
def vStore (Ω : Opq) (T : Nat → Option TI) (t : TypeId) (S : State) (x y : A) (k : State → Prop) : Prop :=
  match T t, x with
  | some i, .pt r j q => (match rowAt S.rows r with
    | some row =>
      if y.cells.length = i.sz then (if 0 < i.sz then (if q + i.sz ≤ row.n then (if y.cells.all okCell then
        (match row.lk with
        | true => (match row.xs[j]? with
          | some z => k (S.setRow r { row with xs := row.xs.set j (newElem z q y.cells) })
          | none => False)
        | false => vStash Ω y.cells.length S y.cells fun ys S' ks => if ks.contains r then False else
            if q = 0 ∧ i.sz = row.n ∧ (isAggA y) then Ob (fun _ => j < row.xs.length ∧ ∀ z ∈ row.xs, isAggN row.n z = true) ∧ k (S'.setRow r { row with xs := Ω.set row.xs j (.agg ys) })
            else if row.n = 1 then Ob (fun _ => j < row.xs.length ∧ ∀ z ∈ row.xs, isAggA z = false) ∧ k (S'.setRow r { row with xs := Ω.set row.xs j (ys.headD .un) })
            else ∃ z, row.xs[j]? = some z ∧ k (S'.setRow r { row with xs := Ω.set row.xs j (newElem z q ys) }))
        else False) else False) else False) else False
    | none => False)
  | _, _ => False
where isAggA : A → Bool
  | .agg _ => true
  | _ => false
def vBuildSlice (Ω : Opq) (T : Nat → Option TI) (t : TypeId) (len : Nat) (parts : List (Nat × A)) (S : State) (k : A → State → Prop) : Prop :=
  match szEl T t with
  | some (_, ti) =>
    if ti.z.isSome ∧ 0 < ti.sz ∧ len * ti.sz ≤ 16777216 ∧ len = parts.length ∧ parts.map (·.1) = List.range' 0 len ∧ parts.all (fun p => p.2.width == ti.sz) ∧ (flat (parts.map (·.2))).all okCell then
      vStash Ω (flat (parts.map (·.2))).length S (flat (parts.map (·.2))) fun ys S' _ => k (.vw S.rows.length 0 len) (S'.addRow ⟨ti.sz, regroup (parts.map (·.2)) ys, false⟩)
    else False
  | none => False
def vMake (Ω : Opq) (T : Nat → Option TI) (t : TypeId) (x y : A) (S : State) (k : A → State → Prop) : Prop :=
  match szEl T t, x, y with
  | some (_, ti), .sc (.int _ a), .sc (.int _ b) => (match ti.z with
    | some z => if (constA z).width = ti.sz ∧ 0 < ti.sz then Ob (fun _ => a = b ∧ 0 ≤ a ∧ ti.bytes * a.toNat ≤ 140737488355328 ∧ a.toNat ≤ maxLen) ∧
        k (.vw S.rows.length 0 (Ω.nat a)) (S.addRow ⟨ti.sz, Ω.rep (Ω.nat a) (constA z), false⟩) else False
    | none => False)
  | _, _, _ => False
def vLo (Ω : Opq) (x : Option A) (d : Nat) (k : (Unit → Prop) → Nat → Prop) : Prop :=
  match x with
  | none => k (fun _ => True) d
  | some (.sc (.int _ n)) => k (fun _ => 0 ≤ n) (Ω.nat n)
  | _ => False
def vSlice (Ω : Opq) (T : Nat → Option TI) (t : TypeId) (S : State) (x : A) (lo hi : Option A) (k : A → Prop) : Prop :=
  match T t with
  | some ti => (match x with
    | .sc (.string s) => if ti.str then vLo Ω lo 0 fun c1 l => vLo Ω hi (Ω.lenS (bs s)) fun c2 h => Ob (fun _ => c1 () ∧ c2 () ∧ l ≤ h ∧ h ≤ (bs s).length) ∧ k (.sc (.string (mkS (Ω.segS l h (bs s))))) else False
    | .vw r off len => (match rowAt S.rows r, szEl T t with
      | some row, some (_, ei) => if ei.sz = row.n then vLo Ω lo 0 fun c1 l => vLo Ω hi len fun c2 h => Ob (fun _ => c1 () ∧ c2 () ∧ l ≤ h ∧ h ≤ len) ∧ k (.vw r (Ω.plus off l) (Ω.minus h l)) else False
      | _, _ => False)
    | .sl false n xs => (match szEl T t with
      | some (_, ei) => if ei.sz = n then vLo Ω lo 0 fun c1 l => vLo Ω hi (Ω.len xs) fun c2 h => Ob (fun _ => c1 () ∧ c2 () ∧ l ≤ h ∧ h ≤ xs.length) ∧ k (.sl false n (Ω.seg l h xs)) else False
      | none => False)
    | _ => False)
  | none => False
def zOK (ti : TI) : Bool :=
  match ti.z with
  | some z => (constA z).width == ti.sz && decide (0 < ti.sz)
  | none => false
/-- 'mv': the second one is a slice that nobody else will use. -/
def vAppend (Ω : Opq) (T : Nat → Option TI) (t : TypeId) (mv : Bool) (S : State) (x y : A) (k : A → State → Prop) : Prop :=
  match szEl T t with
  | some (_, ti) => if zOK ti then (match x with
    | .vw r off len => (match rowAt S.rows r with
      | some row => if off = 0 ∧ ti.sz = row.n ∧ row.lk = false then (match mv, y with
        | true, .vw r2 off2 len2 => (match rowAt S.rows r2 with
          | some row2 => if off2 = 0 ∧ row2.lk = false ∧ r2 ≠ r ∧ row2.n = row.n then
              Ob (fun _ => len2 = row2.xs.length ∧ (∀ c ∈ flat row2.xs, okCell c = true) ∧ (len + row2.xs.length) * ti.bytes ≤ 140737488355328 ∧ len + row2.xs.length ≤ maxLen) ∧
              k (.vw r 0 (Ω.plus len (Ω.len row2.xs))) ((S.turn r2 none).turn r (some ⟨row.n, Ω.app (Ω.take len row.xs) row2.xs, false⟩)) else False
          | none => False)
        | _, .nil => Ob (fun _ => len * ti.bytes ≤ 140737488355328 ∧ len ≤ maxLen) ∧ k (.vw r 0 len) (S.turn r (some ⟨row.n, Ω.take len row.xs, false⟩))
        | _, .sl false n xs2 => if n = row.n then
              Ob (fun _ => (∀ y ∈ xs2, noOwn y = true) ∧ (∀ c ∈ flat xs2, okCell c = true) ∧ (len + xs2.length) * ti.bytes ≤ 140737488355328 ∧ len + xs2.length ≤ maxLen) ∧
              k (.vw r 0 (Ω.plus len (Ω.len xs2))) (S.turn r (some ⟨row.n, Ω.app (Ω.take len row.xs) xs2, false⟩)) else False
        | _, .vw r2 off2 len2 => (match rowAt S.rows r2 with
          | some row2 => if row2.lk = false ∧ row2.n = row.n then
              Ob (fun _ => off2 + len2 ≤ row2.xs.length ∧ (∀ y ∈ (row2.xs.drop off2).take len2, noOwn y = true) ∧ (∀ c ∈ flat ((row2.xs.drop off2).take len2), okCell c = true) ∧ (len + len2) * ti.bytes ≤ 140737488355328 ∧ len + len2 ≤ maxLen) ∧
              k (.vw r 0 (Ω.plus len len2)) (S.turn r (some ⟨row.n, Ω.app (Ω.take len row.xs) (Ω.seg off2 (Ω.plus off2 len2) row2.xs), false⟩)) else False
          | none => False)
        | _, _ => False) else False
      | none => False)
    | .nil => (match y with
      | .nil => k .nil S
      | .sl false n xs2 => if n = ti.sz then Ob (fun _ => (∀ y ∈ xs2, noOwn y = true) ∧ (∀ c ∈ flat xs2, okCell c = true) ∧ xs2.length * ti.bytes ≤ 140737488355328 ∧ xs2.length ≤ maxLen) ∧
          k (.vw S.rows.length 0 (Ω.len xs2)) (S.addRow ⟨ti.sz, xs2, false⟩) else False
      | .vw r2 off2 len2 => (match rowAt S.rows r2 with
        | some row2 => if row2.lk = false ∧ row2.n = ti.sz then
            Ob (fun _ => off2 + len2 ≤ row2.xs.length ∧ (∀ y ∈ (row2.xs.drop off2).take len2, noOwn y = true) ∧ (∀ c ∈ flat ((row2.xs.drop off2).take len2), okCell c = true) ∧ len2 * ti.bytes ≤ 140737488355328 ∧ len2 ≤ maxLen) ∧
            k (.vw S.rows.length 0 len2) (S.addRow ⟨ti.sz, Ω.seg off2 (Ω.plus off2 len2) row2.xs, false⟩) else False
        | none => False)
      | _ => False)
    | _ => False) else False
  | none => False

def vConv (Ω : Opq) (T : Nat → Option TI) (src dst : TypeId) (S : State) (x : A) (k : A → Prop) : Prop :=
  match T src, T dst with
  | some i, some j => (match x with
    | .sc (.int _ n) => (match j.kind with
      | some kk => k (.sc (.int kk (Ω.wrap kk n)))
      | none => False)
    | .sc (.string s) => if i.str && j.str then k (.sc (.string s)) else False
    | .vw r off len => (match rowAt S.rows r, szEl T src with
      | some row, some (_, e) => (match e.kind with
        | some .u8 => if row.n = 1 ∧ j.str = true then ∃ ns, (off + len ≤ row.xs.length ∧ (row.xs.drop off).take len = ns.map byteA) ∧ k (.sc (.string (mkS ns))) else False
        | _ => False)
      | _, _ => False)
    | .sl false n xs => (match szEl T src with
      | some (_, e) => (match e.kind with
        | some .u8 => if n = 1 ∧ j.str = true then ∃ ns, xs = ns.map byteA ∧ k (.sc (.string (mkS ns))) else False
        | _ => False)
      | _ => False)
    | _ => False)
  | _, _ => False
/-- From an own row of data what lies behind is made zero. -/
def vClear (Ω : Opq) (T : Nat → Option TI) (t : TypeId) (S : State) (x : A) (k : A → State → Prop) : Prop :=
  match szEl T t, x with
  | some (_, ti), .vw r off len => (match rowAt S.rows r, ti.z with
    | some row, some z => if row.lk = false ∧ row.n = 1 ∧ ti.sz = 1 ∧ isAggV z = false then
        Ob (fun _ => off + len = row.xs.length ∧ ∀ y ∈ row.xs, isAggB y = false) ∧ k (.tup []) (S.setRow r ⟨row.n, Ω.app (Ω.take off row.xs) (Ω.rep len (cellA z)), false⟩) else False
    | _, _ => False)
  | _, _ => False
def vMakeFn (f : Fn) (first : List A) (caps : List A) (k : A → Prop) : Prop :=
  match f, first with
  | .func g, [] => if g < 1000000 then k (.clo g caps) else False
  | .func g, first => (match caps with
    | [] => if g < 1000000 then k (.clo (1000000 + g) first) else False
    | _ => False)
  | _, _ => False
def vCall (Ω : Opq) (P : Program) (T : Nat → Option TI) (mv : Option Nat) (S : State) (f : Callee) (args : List Operand) (ts : List TypeId) (k : A → State → Prop) : Prop :=
  match f with
  | .value (.func g) => if g < 1000000 then CallX P g (args.map (ev S)) S k else False
  | .value f => (match ev S f with
    | .clo g caps => CallX P (Ω.cloN g) (Ω.cloA g (args.map (ev S)) caps) S k
    | _ => False)
  | .builtin .clear => (match args, ts with
    | [x], [t] => vClear Ω T t S (ev S x) k
    | _, _ => False)
  | .builtin .len => (match args, ts with
    | [x], [t] => vLen Ω T t (ev S x) fun z => k z S
    | _, _ => False)
  | .builtin .append => (match args, ts with
    | [x, y], [t, t'] => if t = t' then vAppend Ω T t (match y with
      | .tmp i => mv == some i
      | _ => false) S (ev S x) (ev S y) k else False
    | _, _ => False)
  | _ => False
def vOp (Ω : Opq) (P : Program) (T : Nat → Option TI) (mv : Option Nat) (o : Oper) (S : State) (K : State → Prop) : Prop :=
  match o.op with
  | .move x => K (S.put o.dst (ev S x))
  | .assign x => K (S.put o.dst (ev S x))
  | .pick c x y => vPick Ω (ev S c) (ev S x) (ev S y) fun z => K (S.put o.dst z)
  | .unOp op _ x => vUn Ω op (ev S x) fun z => K (S.put o.dst z)
  | .binOp op t x y _ => vBinN Ω P T op t (ev S x) (ev S y) fun z => K (S.put o.dst z)
  | .load t x => vLoadS Ω T t S (ev S x) fun z S' => K (S'.put o.dst z)
  | .fieldAddr t x i => vFieldAddr T t i (ev S x) fun z => K (S.put o.dst z)
  | .field t x i => vField T t i (ev S x) fun z => K (S.put o.dst z)
  | .indexAddr t x y => vIndexAddr Ω T t S (ev S x) (ev S y) fun z => K (S.put o.dst z)
  | .index t x y => vIndex Ω T t (ev S x) (ev S y) fun z => K (S.put o.dst z)
  | .extract x i => vExtract (ev S x) i fun z => K (S.put o.dst z)
  | .nilCheck x => vNilCheck (ev S x) fun z => K (S.put o.dst z)
  | .box _ x => vBox S (ev S x) fun z S' => K (S'.put o.dst z)
  | .alloc t => vAlloc T t S fun z S' => K (S'.put o.dst z)
  | .build t parts => vBuild T t (parts.toList.map fun p => (p.1, ev S p.2)) fun z => K (S.put o.dst z)
  | .store t x y => vStore Ω T t S (ev S x) (ev S y) fun S' => K (S'.put o.dst .un)
  | .buildSlice t len parts => vBuildSlice Ω T t len (parts.toList.map fun p => (p.1, ev S p.2)) S fun z S' => K (S'.put o.dst z)
  | .makeSlice t x y => vMake Ω T t (ev S x) (ev S y) S fun z S' => K (S'.put o.dst z)
  | .slice t x lo hi none => vSlice Ω T t S (ev S x) (lo.map (ev S)) (hi.map (ev S)) fun z => K (S.put o.dst z)
  | .convert src dst x => vConv Ω T src dst S (ev S x) fun z => K (S.put o.dst z)
  | .makeFunc f first caps => vMakeFn f (first.toList.map (ev S)) (caps.toList.map (ev S)) fun z => K (S.put o.dst z)
  | .call c => vCall Ω P T mv S c.callee c.args.toList c.argTypes.toList fun z S' => K (S'.put o.dst z)
  | _ => HardX P o S K
/-- Who was just made. -/
def madeBy (o : Oper) : Option Nat :=
  match o.op with
  | .buildSlice _ _ _ => o.dst
  | _ => none
def guardAt (ops : List Oper) (j : Nat) : Option Nat := (ops[j]?).bind (·.dst)
def vOps (Ω : Opq) (P : Program) (T : Nat → Option TI) (ops : List Oper) : Option Nat → List Oper → State → (State → Prop) → Prop
  | _, [], S, K => K S
  | mv, o :: os, S, K =>
    match o.guard with
    | none => vOp Ω P T mv o S fun S' => vOps Ω P T ops (madeBy o) os S' K
    | some (j, b) =>
      match guardAt ops j with
      | none => False
      | some i => if i < S.N then (match lk S.t i with
        | .sc (.bool p) => brB p
            (fun _ => match b with
              | true => vOp Ω P T mv o (S.put (some i) (.sc (.bool true))) fun S' => vOps Ω P T ops (madeBy o) os S' K
              | false => vOps Ω P T ops none os ((S.put (some i) (.sc (.bool true))).put o.dst (.tup [])) K)
            (fun _ => match b with
              | true => vOps Ω P T ops none os ((S.put (some i) (.sc (.bool false))).put o.dst (.tup [])) K
              | false => vOp Ω P T mv o (S.put (some i) (.sc (.bool false))) fun S' => vOps Ω P T ops (madeBy o) os S' K)
        | .tup [] => vOps Ω P T ops none os (S.put o.dst (.tup [])) K
        | _ => False) else False
def vC (Ω : Opq) (P : Program) (T : Nat → Option TI) : Code → State → (Exit → State → Prop) → Prop
  | .skip, S, K => K .normal S
  | .exit id, S, K => K (.exit id) S
  | .ret, S, K => K .ret S
  | .seq x y, S, K => vC Ω P T x S (thenK (fun S' => vC Ω P T y S' K) K)
  | .block id c, S, K => vC Ω P T c S (blockK id K)
  | .cond x c d, S, K => (match ev S x with
    | .sc (.bool p) => brB p (fun _ => vC Ω P T c S K) (fun _ => vC Ω P T d S K)
    | _ => False)
  | .region _ ops false, S, K => vOps Ω P T ops.toList none ops.toList S (K .normal)
  | c, S, K => VCX P c S K
end Go.Fw

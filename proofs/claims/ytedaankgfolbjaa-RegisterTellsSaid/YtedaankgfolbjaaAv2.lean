/- The abstract evaluator of one operation. -/
import Derived.Test.YtedaankgfolbjaaAv1
import Derived.Laws.BytesArg
import Derived.Laws.IdiomStrings
namespace Go.Proofs.Av
open Go.RowKit

/-- A type's shape, as far as the evaluator asks. -/
inductive Sh where
  | int (k : IntKind)
  | bool
  | str
  | struct (fs : List (Nat × TypeId))
  | arr (n : Nat) (e : TypeId)
  | slice (e : TypeId)
  | ptr (e : TypeId)
  | other

structure TyI where
  sh : Sh
  size : Nat
  bytes : Nat
  zero : List Value

def TyI.agg (t : TyI) : Bool :=
  match t.sh with
  | .struct _ => true
  | .arr _ _ => true
  | _ => false

/-- What an operation comes to: its value; which objects of the call's own memory it turns, which it makes, which it looks at; whether it hangs on how many there are; what must hold. -/
structure Res where
  v : AV
  wr : List (Nat × HObj) := []
  nw : List HObj := []
  rd : List Nat := []
  al : Bool := false
  vc : Prop := True

abbrev HFn := List AV → Nat → (Nat → Option HObj) → Option Res

structure Env where
  ty : TypeId → Option TyI
  eqT : TypeId → Bool
  pure : FuncId → Option (List PV → Option PV)
  heap : FuncId → Option HFn

def AV.cells : AV → List AV
  | .p (.agg cs) => cs.map .p
  | .agg cs => cs
  | x => [x]

mutual
/-- No guarded value inside. -/
def AV.ng : AV → Bool
  | .p _ => true
  | .own _ _ => true
  | .agg cs => ngL cs
  | .ptr _ _ => true
  | .bsl _ _ _ _ => true
  | .elt _ => true
  | .fn _ cs => ngL cs
  | .tup vs => ngL vs
  | .grd _ _ => false
  | .dead => true
def ngL : List AV → Bool
  | [] => true
  | x :: xs => x.ng && ngL xs
end

theorem ngL_all (l : List AV) : ngL l = l.all AV.ng := by
  induction l with
  | nil => rfl
  | cons x xs ih => simp [ngL, ih]

def AV.okCells : AV → Bool
  | .p (.tup _) => false
  | .tup _ => false
  | .grd _ _ => false
  | .dead => false
  | .agg cs => ngL cs
  | .fn _ cs => ngL cs
  | _ => true

theorem okCells_ng {x : AV} (h : x.okCells = true) : ∀ c ∈ x.cells, c.ng = true := by
  cases x with
  | p y =>
    cases y with
    | agg cs =>
      intro c hc
      simp [AV.cells] at hc
      obtain ⟨y, _, rfl⟩ := hc
      rfl
    | _ => intro c hc; simp [AV.cells] at hc; subst hc; rfl
  | agg cs =>
    intro c hc
    simp only [AV.okCells, ngL_all, List.all_eq_true] at h
    exact h c hc
  | fn f cs => intro c hc; simp [AV.cells] at hc; subst hc; simpa [AV.okCells, AV.ng] using h
  | own r u => intro c hc; simp [AV.cells] at hc; subst hc; rfl
  | ptr r u => intro c hc; simp [AV.cells] at hc; subst hc; rfl
  | bsl b k lo hi => intro c hc; simp [AV.cells] at hc; subst hc; rfl
  | elt r => intro c hc; simp [AV.cells] at hc; subst hc; rfl
  | _ => simp [AV.okCells] at h

def PV.cells : PV → List PV
  | .agg cs => cs
  | x => [x]

/-- A cell as a plain value: a growing slice as it stands. -/
def demC (h : Nat → Option HObj) : AV → Option PV
  | .p x => some x
  | .own r u =>
    match h r with
    | some (.row e k ver es) => if u = ver ∧ e < raw0 then some (.sl k es) else none
    | _ => none
  | _ => none

def demCs (h : Nat → Option HObj) : List AV → Option (List PV)
  | [] => some []
  | c :: cs =>
    match demC h c, demCs h cs with
    | some x, some xs => some (x :: xs)
    | _, _ => none

def dem (h : Nat → Option HObj) : AV → Option PV
  | .agg cs => (demCs h cs).map .agg
  | x => demC h x

def demAll (h : Nat → Option HObj) : List AV → Option (List PV)
  | [] => some []
  | c :: cs =>
    match dem h c, demAll h cs with
    | some x, some xs => some (x :: xs)
    | _, _ => none

def rdC : AV → List Nat
  | .own r _ => [r]
  | _ => []

def rdOf : AV → List Nat
  | .own r _ => [r]
  | .agg cs => cs.flatMap rdC
  | _ => []

def splice {α : Type} (cs : List α) (off : Nat) : List α → List α
  | [x] => cs.set off x
  | xs => cs.take off ++ xs ++ cs.drop (off + xs.length)

def boolV : AV → Bool
  | .p (.sc (.bool b)) => b
  | _ => false
def isBoolV : AV → Bool
  | .p (.sc (.bool _)) => true
  | _ => false
def aPick : AV → AV → AV → Option Res
  | .p (.sc (.bool c)), x, y => some { v := .p (.sc (.bool (bif c then boolV x else boolV y))), vc := (bif c then isBoolV x else isBoolV y) = true }
  | _, _, _ => none

/-- The cells of a new variable: each slice in it may grow. -/
def zeroCells : Nat → List Value → List AV × List HObj
  | _, [] => ([], [])
  | n, .slice none 0 0 :: vs =>
    let (cs, rs) := zeroCells (n + 1) vs
    (.own n 0 :: cs, .row 0 0 0 [] :: rs)
  | n, v :: vs =>
    let (cs, rs) := zeroCells n vs
    (.p (.sc v) :: cs, rs)

def aAlloc (E : Env) (len : Nat) (t : TypeId) : Option Res :=
  match E.ty t with
  | some i => some { v := .ptr len 0, nw := .box (zeroCells (len + 1) i.zero).1 :: (zeroCells (len + 1) i.zero).2, al := true }
  | none => none

def zeroPV : List Value → List AV
  | [] => []
  | .slice none 0 0 :: vs => .p (.sl 0 []) :: zeroPV vs
  | v :: vs => .p (.sc v) :: zeroPV vs

def place (E : Env) (i : TyI) (ix : Nat) : Option (Nat × Nat) :=
  match i.sh with
  | .struct fs =>
    match fs[ix]? with
    | some (off, t) => (E.ty t).map fun j => (off, j.size)
    | none => none
  | .arr n e => if ix < n then (E.ty e).map fun j => (ix * j.size, j.size) else none
  | _ => none

def fillA (pl : Nat → Option (Nat × Nat)) (cells : List AV) : List (Nat × AV) → Option (List AV)
  | [] => some cells
  | (ix, v) :: rest =>
    match pl ix with
    | some (off, size) => if v.okCells = true ∧ v.cells.length = size ∧ off + size ≤ cells.length then fillA pl (splice cells off v.cells) rest else none
    | none => none

def aBuild (E : Env) (t : TypeId) (parts : List (Nat × AV)) : Option Res :=
  match E.ty t with
  | some i => if i.agg = true then (fillA (place E i) (zeroPV i.zero) parts).map fun cs => { v := .agg cs } else none
  | none => none

def chunks {α : Type} (k : Nat) : Nat → List α → List (List α)
  | 0, _ => []
  | n + 1, l => l.take k :: chunks k n (l.drop k)

def reps (zs : List AV) : Nat → List AV
  | 0 => []
  | n + 1 => zs ++ reps zs n

def aBuildSlice (E : Env) (h : Nat → Option HObj) (t : TypeId) (n : Nat) (parts : List (Nat × AV)) : Option Res :=
  match E.ty t with
  | some { sh := .slice e, .. } =>
    match E.ty e with
    | some i =>
      if 0 < i.size ∧ n * i.size ≤ 65536 then
        match fillA (fun ix => if ix < n then some (ix * i.size, i.size) else none) (reps (zeroPV i.zero) n) parts with
        | some cs => (demCs h cs).map fun xs => { v := .p (.sl i.size (chunks i.size n xs)), rd := cs.flatMap rdC }
        | none => none
      else none
    | none => none
  | _ => none

/-- A new slice of nothing, which may grow. -/
def aEmpty (E : Env) (len : Nat) (t : TypeId) : Option Res :=
  match E.ty t with
  | some { sh := .slice e, .. } =>
    match E.ty e with
    | some i => if 0 < i.size ∧ e < raw0 then some { v := .own len 0, nw := [.row e i.size 0 []], al := true } else none
    | none => none
  | _ => none

/-- What stands in for a value that is not there (an operation that is not carried out looks at it). -/
def dft (i : TyI) : PV :=
  match i.zero with
  | .slice none 0 0 :: _ => .sl 0 []
  | v :: _ => .sc v
  | [] => .tup []

def aLoad (E : Env) (h : Nat → Option HObj) (t : TypeId) : AV → Option Res
  | .ptr b off =>
    match h b, E.ty t with
    | some (.box cs), some i =>
      if i.agg = true then some { v := .agg ((cs.drop off).take i.size), rd := [b], vc := off + i.size ≤ cs.length }
      else some { v := cs.getD off .dead, rd := [b], vc := off < cs.length }
    | _, _ => none
  | .elt cs =>
    match E.ty t with
    | some i =>
      if i.agg = true then some { v := .p (.agg (cs.take i.size)), vc := i.size ≤ cs.length }
      else some { v := .p (cs.getD 0 (dft i)), vc := 0 < cs.length }
    | none => none
  | _ => none

def aStore (E : Env) (h : Nat → Option HObj) (t : TypeId) : AV → AV → Option Res
  | .ptr b off, x =>
    match h b, E.ty t with
    | some (.box cs), some i =>
      if x.okCells = true ∧ x.cells.length = i.size then some { v := .dead, wr := [(b, .box (splice cs off x.cells))], rd := [b], vc := off + i.size ≤ cs.length }
      else none
    | _, _ => none
  | _, _ => none

def aNil : AV → Option Res
  | .ptr b o => some { v := .ptr b o }
  | .elt cs => some { v := .elt cs }
  | .fn f cs => some { v := .fn f cs }
  | _ => none

def scEq : Value → Value → Option Bool
  | .int k a, .int k' b => if k = k' then some (a == b) else none
  | .string a, .string b => some (a == b)
  | .bool a, .bool b => some (a == b)
  | _, _ => none

def cellsEq : List PV → List PV → Option Bool
  | [], [] => some true
  | .sc a :: x, .sc b :: y =>
    match scEq a b, cellsEq x y with
    | some p, some q => some (p && q)
    | _, _ => none
  | _, _ => none

def sameAs (z : Value) (x : PV) : Bool :=
  match z, x with
  | .int k _, .sc (.int k' _) => decide (k = k')
  | .bool _, .sc (.bool _) => true
  | .string _, .sc (.string _) => true
  | _, _ => false

def likeAll : List Value → List PV → Bool
  | [], [] => true
  | z :: zs, x :: xs => sameAs z x && likeAll zs xs
  | _, _ => false

/-- Parts that fit their type, held one against the other. -/
def fitEq (i : Option TyI) (xs ys : List PV) : Option Bool :=
  match i with
  | some j => if likeAll j.zero xs = true ∧ likeAll j.zero ys = true then cellsEq xs ys else none
  | none => none

def intBin (op : BinOp) (k : IntKind) (a b : Int) : Option Value :=
  match op with
  | .add => some (.int k (k.wrap (a + b)))
  | .sub => some (.int k (k.wrap (a - b)))
  | .mul => some (.int k (k.wrap (a * b)))
  | .quo => if b = 0 then none else some (.int k (k.wrap (a.tdiv b)))
  | .rem => if b = 0 then none else some (.int k (a.tmod b))
  | .eql => some (.bool (a == b))
  | .neq => some (.bool (a != b))
  | .lss => some (.bool (a < b))
  | .leq => some (.bool (a ≤ b))
  | .gtr => some (.bool (a > b))
  | .geq => some (.bool (a ≥ b))
  | _ => none

def strBin (op : BinOp) (a b : ByteArray) : Option Value :=
  match op with
  | .eql => some (.bool (a == b))
  | .neq => some (.bool (!(a == b)))
  | .lss => some (.bool (Op.bytesLess a.toList b.toList))
  | .gtr => some (.bool (!(Op.bytesLess a.toList b.toList || a == b)))
  | _ => none

def aEq (E : Env) (h : Nat → Option HObj) (op : BinOp) (t : TypeId) (x y : AV) : Option Res :=
  if E.eqT t = true then
    match dem h x, dem h y with
    | some (.agg xs), some (.agg ys) =>
      match fitEq (E.ty t) xs ys with
      | some b =>
        match op with
        | .eql => some { v := .p (.sc (.bool b)), rd := rdOf x ++ rdOf y }
        | .neq => some { v := .p (.sc (.bool (!b))), rd := rdOf x ++ rdOf y }
        | _ => none
      | none => none
    | _, _ => none
  else none

def aBin (E : Env) (h : Nat → Option HObj) (op : BinOp) (t : TypeId) (x y : AV) : Option Res :=
  match op, x, y with
  | .add, .p (.sc (.string a)), .p (.sc (.string b)) => some { v := .p (.sc (.string (a ++ b))), vc := a.size + b.size ≤ 9223372036854775807 }
  | op, .p (.sc (.int k a)), .p (.sc (.int k' b)) => if k = k' then (intBin op k a b).map fun v => { v := .p (.sc v) } else none
  | op, .p (.sc (.string a)), .p (.sc (.string b)) => (strBin op a b).map fun v => { v := .p (.sc v) }
  | .eql, .p (.sc (.bool a)), .p (.sc (.bool b)) => match E.ty t with | some { sh := .bool, .. } => some { v := .p (.sc (.bool (a == b))) } | _ => none
  | .neq, .p (.sc (.bool a)), .p (.sc (.bool b)) => match E.ty t with | some { sh := .bool, .. } => some { v := .p (.sc (.bool (!(a == b)))) } | _ => none
  | op, x, y => aEq E h op t x y

def aUn : UnOp → AV → Option Res
  | .not, .p (.sc (.bool b)) => some { v := .p (.sc (.bool (!b))) }
  | .neg, .p (.sc (.int k n)) => some { v := .p (.sc (.int k (k.wrap (0 - n)))) }
  | _, _ => none

def aConv (E : Env) (s d : TypeId) : AV → Option Res
  | .p (.sc (.int _ n)) =>
    match E.ty s, E.ty d with
    | some { sh := .int _, .. }, some { sh := .int k, .. } => some { v := .p (.sc (.int k (k.wrap n))) }
    | _, _ => none
  | _ => none

/-- A slice as a plain list of elements. -/
def asSl (h : Nat → Option HObj) (x : AV) : Option (Nat × List (List PV)) :=
  match demC h x with
  | some (.sl k es) => some (k, es)
  | _ => none

def natOf : AV → Option Int
  | .p (.sc (.int _ n)) => some n
  | _ => none

def aSlice (E : Env) (h : Nat → Option HObj) (t : TypeId) (x : AV) (lo hi : Option AV) : Option Res :=
  match E.ty t with
  | some { sh := .str, .. } =>
    match x with
    | .p (.sc (.string s)) =>
      match lo.elim (some 0) natOf, hi.elim (some (s.size : Int)) natOf with
      | some l, some u => some { v := .p (.sc (.string (s.extract l.toNat u.toNat))), vc := 0 ≤ l ∧ l ≤ u ∧ u ≤ s.size }
      | _, _ => none
    | _ => none
  | some { sh := .slice e, .. } =>
    match E.ty e, asSl h x with
    | some i, some (k, es) =>
      match lo.elim (some 0) natOf, hi.elim (some (es.length : Int)) natOf with
      | some l, some u => some { v := .p (.sl k ((es.take u.toNat).drop l.toNat)), rd := rdC x, vc := (k = i.size ∨ es = []) ∧ 0 ≤ l ∧ l ≤ u ∧ u ≤ es.length }
      | _, _ => none
    | _, _ => none
  | _ => none

def aFieldAddr (E : Env) (s : TypeId) (x : AV) (f : Nat) : Option Res :=
  match E.ty s with
  | some { sh := .struct fs, .. } =>
    match fs[f]? with
    | some (off, ft) =>
      match E.ty ft with
      | some j =>
        if 0 < j.size then
          match x with
          | .ptr b o => some { v := .ptr b (o + off) }
          | .elt cs => some { v := .elt (cs.drop off) }
          | _ => none
        else none
      | none => none
    | none => none
  | _ => none

/-- A part of an aggregate. -/
def partA (E : Env) (t : TypeId) (cs : List AV) (off : Nat) : Option Res :=
  match E.ty t with
  | some i =>
    if i.agg = true then some { v := .agg ((cs.drop off).take i.size), vc := off + i.size ≤ cs.length }
    else some { v := cs.getD off (.p (dft i)), vc := off < cs.length }
  | none => none

def isAggA : AV → Bool
  | .p (.agg _) => true
  | .agg _ => true
  | _ => false

def aField (E : Env) (s : TypeId) (x : AV) (f : Nat) : Option Res :=
  match E.ty s with
  | some { sh := .struct fs, .. } =>
    match fs[f]? with
    | some (off, t) => if isAggA x = true then partA E t x.cells off else none
    | none => none
  | _ => none

def aIndexAddr (E : Env) (h : Nat → Option HObj) (t : TypeId) (x ix : AV) : Option Res :=
  match natOf ix, E.ty t with
  | some i, some { sh := .arr n e, .. } =>
    match E.ty e, x with
    | some j, .ptr b o => some { v := .ptr b (o + i.toNat * j.size), vc := 0 ≤ i ∧ i < n }
    | some j, .elt cs => some { v := .elt (cs.drop (i.toNat * j.size)), vc := 0 ≤ i ∧ i < n }
    | _, _ => none
  | some i, some { sh := .slice e, .. } =>
    match E.ty e, asSl h x with
    | some j, some (k, es) => some { v := .elt (es.getD i.toNat []), rd := rdC x, vc := (k = j.size ∨ es = []) ∧ 0 ≤ i ∧ i < es.length }
    | _, _ => none
  | _, _ => none

def aIndex (E : Env) (t : TypeId) (x ix : AV) : Option Res :=
  match natOf ix, E.ty t with
  | some i, some { sh := .arr n e, .. } =>
    match E.ty e with
    | some j =>
      if isAggA x = true then
        match partA E e x.cells (i.toNat * j.size) with
        | some r => some { r with vc := (0 ≤ i ∧ i < n) ∧ r.vc }
        | none => none
      else none
    | none => none
  | some i, some { sh := .str, .. } =>
    match x with
    | .p (.sc (.string s)) => some { v := .p (.sc (.int .u8 (s.data.toList.getD i.toNat 0).toNat)), vc := 0 ≤ i ∧ i < s.size }
    | _ => none
  | _, _ => none

def aExtract (x : AV) (i : Nat) : Option Res :=
  match x with
  | .tup vs => (vs[i]?).map fun v => { v }
  | .p (.tup vs) => (vs[i]?).map fun v => { v := .p v }
  | _ => none

def aLen (E : Env) (h : Nat → Option HObj) (t : TypeId) (x : AV) : Option Res :=
  match E.ty t with
  | some { sh := .str, .. } =>
    match x with
    | .p (.sc (.string s)) => some { v := .p (.sc (.int .i64 s.size)) }
    | _ => none
  | some { sh := .slice _, .. } =>
    match asSl h x with
    | some (_, es) => some { v := .p (.sc (.int .i64 es.length)), rd := rdC x }
    | none => none
  | some { sh := .arr n _, .. } => some { v := .p (.sc (.int .i64 n)) }
  | _ => none

def aMinMax (mx : Bool) : List AV → Option Res
  | [.p (.sc (.int k a)), .p (.sc (.int k' b))] => if k = k' then some { v := .p (.sc (.int k (if mx then (if b > a then b else a) else (if b < a then b else a)))) } else none
  | _ => none

def aAppend (E : Env) (h : Nat → Option HObj) (t : TypeId) (x y : AV) : Option Res :=
  match E.ty t with
  | some { sh := .slice e, .. } =>
    match E.ty e, x, asSl h y with
    | some i, .own r u, some (k', new) =>
      match h r with
      | some (.row e' k ver es) =>
        if u = ver ∧ e < raw0 then
          some { v := .own r (ver + 1), wr := [(r, .row e i.size (ver + 1) (es ++ new))], rd := r :: rdC y,
                 vc := ((e' = e ∧ k = i.size) ∨ k = 0) ∧ (k' = i.size ∨ new = []) ∧ 0 < i.size ∧ i.zero.length = i.size ∧ (es.length + new.length) * i.bytes ≤ 140737488355328 ∧ es.length + new.length ≤ 140737488355328 }
        else none
      | _ => none
    | _, _, _ => none
  | _ => none

def aCall (E : Env) (len : Nat) (h : Nat → Option HObj) (f : AV) (args : List AV) : Option Res :=
  match f with
  | .fn g caps =>
    match E.pure g with
    | some s =>
      match demAll h (args ++ caps) with
      | some xs => some { v := .p ((s xs).getD (.tup [])), rd := (args ++ caps).flatMap rdOf, vc := (s xs).isSome = true }
      | none => none
    | none =>
      match E.heap g with
      | some s => s (args ++ caps) len h
      | none => none
  | _ => none

def isNilSlice : Operand → Bool
  | .const (.slice none 0 0) => true
  | _ => false

def aMakeFunc : Fn → List Operand → List AV → Option Res
  | .func f, [], caps => some { v := .fn f caps }
  | _, _, _ => none

def aopCall (E : Env) (ρ : Operand → AV) (len : Nat) (h : Nat → Option HObj) (c : Call) : Option Res :=
  match c.callee with
  | .builtin .len =>
    match c.args.toList, c.argTypes.toList with
    | [x], [t] => aLen E h t (ρ x)
    | _, _ => none
  | .builtin .min => aMinMax false (c.args.toList.map ρ)
  | .builtin .max => aMinMax true (c.args.toList.map ρ)
  | .builtin .append =>
    match c.args.toList, c.argTypes.toList with
    | [x, y], [t, u] => if t = u then aAppend E h t (ρ x) (ρ y) else none
    | _, _ => none
  | .value f => aCall E len h (ρ f) (c.args.toList.map ρ)
  | _ => none

def aop0 (E : Env) (ρ : Operand → AV) (len : Nat) (h : Nat → Option HObj) (o : Op) : Option Res :=
  match o with
  | .move x => some { v := ρ x }
  | .assign x => if isNilSlice x = true then some { v := .own len 0, nw := [.row 0 0 0 []], al := true } else some { v := ρ x }
  | .pick c a b => aPick (ρ c) (ρ a) (ρ b)
  | .alloc t => aAlloc E len t
  | .box _ x => if (ρ x).okCells = true then some { v := .ptr len 0, nw := [.box (ρ x).cells], al := true } else none
  | .build t parts => aBuild E t (parts.toList.map fun q => (q.1, ρ q.2))
  | .buildSlice t n parts => if n = 0 ∧ parts.isEmpty = true then aEmpty E len t else aBuildSlice E h t n (parts.toList.map fun q => (q.1, ρ q.2))
  | .load t x => aLoad E h t (ρ x)
  | .store t x y => aStore E h t (ρ x) (ρ y)
  | .nilCheck x => aNil (ρ x)
  | .binOp op t x y _ => aBin E h op t (ρ x) (ρ y)
  | .unOp op _ x => aUn op (ρ x)
  | .convert s d x => aConv E s d (ρ x)
  | .slice t x lo hi none => aSlice E h t (ρ x) (lo.map ρ) (hi.map ρ)
  | .fieldAddr s x f => aFieldAddr E s (ρ x) f
  | .field s x f => aField E s (ρ x) f
  | .indexAddr t x i => aIndexAddr E h t (ρ x) (ρ i)
  | .index t x i => aIndex E t (ρ x) (ρ i)
  | .extract t i => aExtract (ρ t) i
  | .makeFunc fn first caps => aMakeFunc fn first.toList (caps.toList.map ρ)
  | .call c => aopCall E ρ len h c
  | _ => none

/-! Further operations. -/
def numsOf : List (List PV) → Option (List Int)
  | [] => some []
  | [.sc (.int .u8 n)] :: l => (numsOf l).map (n :: ·)
  | _ => none

def aBinX (E : Env) (op : BinOp) (t : TypeId) (x y : AV) : Option Res :=
  match op, x, y with
  | .shl, .p (.sc (.int k a)), .p (.sc (.int _ b)) => some { v := .p (.sc (.int k (k.wrap (a * 2 ^ (min b.toNat k.bits))))), vc := 0 ≤ b }
  | .shr, .p (.sc (.int k a)), .p (.sc (.int _ b)) => some { v := .p (.sc (.int k (a.fdiv (2 ^ (min b.toNat k.bits))))), vc := 0 ≤ b }
  | .and, .p (.sc (.int k a)), .p (.sc (.int k' b)) => if k = k' then some { v := .p (.sc (.int k (k.wrap (BitVec.ofInt k.bits a &&& BitVec.ofInt k.bits b).toNat))) } else none
  | .or, .p (.sc (.int k a)), .p (.sc (.int k' b)) => if k = k' then some { v := .p (.sc (.int k (k.wrap (BitVec.ofInt k.bits a ||| BitVec.ofInt k.bits b).toNat))) } else none
  | .eql, .ptr _ _, .p (.sc (.pointer none)) => match E.ty t with | some { sh := .ptr _, .. } => some { v := .p (.sc (.bool false)) } | _ => none
  | .neq, .ptr _ _, .p (.sc (.pointer none)) => match E.ty t with | some { sh := .ptr _, .. } => some { v := .p (.sc (.bool true)) } | _ => none
  | .eql, .p (.sc (.pointer none)), .p (.sc (.pointer none)) => match E.ty t with | some { sh := .ptr _, .. } => some { v := .p (.sc (.bool true)) } | _ => none
  | .neq, .p (.sc (.pointer none)), .p (.sc (.pointer none)) => match E.ty t with | some { sh := .ptr _, .. } => some { v := .p (.sc (.bool false)) } | _ => none
  | _, _, _ => none

def aConvX (E : Env) (h : Nat → Option HObj) (s d : TypeId) (x : AV) : Option Res :=
  match E.ty s, E.ty d with
  | some { sh := .str, .. }, some { sh := .str, .. } =>
    match x with
    | .p (.sc (.string b)) => some { v := .p (.sc (.string b)) }
    | _ => none
  | some { sh := .slice e, .. }, some { sh := .str, .. } =>
    match E.ty e, asSl h x with
    | some { sh := .int .u8, .. }, some (_, es) => (numsOf es).map fun ns => { v := .p (.sc (.string (strOfNums ns))), rd := rdC x }
    | _, _ => none
  | some { sh := .str, .. }, some { sh := .slice e, .. } =>
    match E.ty e, x with
    | some { sh := .int .u8, .. }, .p (.sc (.string b)) => some { v := .p (.sl 1 (b.data.toList.map fun c => [.sc (.int .u8 c.toNat)])), vc := b.size ≤ 1073741824 }
    | _, _ => none
  | _, _ => none

/-- A slice over a variable's cells. -/
def aIndexB (E : Env) (t : TypeId) (b k lo hi : Nat) (ix : AV) : Option Res :=
  match natOf ix, E.ty t with
  | some i, some { sh := .slice e, .. } =>
    match E.ty e with
    | some j => if k = j.size then some { v := .ptr b ((lo + i.toNat) * k), vc := 0 ≤ i ∧ lo + i.toNat < hi } else none
    | none => none
  | _, _ => none

def aSliceB (E : Env) (t : TypeId) (b k lo hi : Nat) (l u : Option AV) : Option Res :=
  match E.ty t with
  | some { sh := .slice e, .. } =>
    match E.ty e with
    | some j =>
      if k = j.size then
        match l.elim (some 0) natOf, u.elim (some ((hi - lo : Nat) : Int)) natOf with
        | some l, some u => some { v := .bsl b k (lo + l.toNat) (lo + u.toNat), vc := 0 ≤ l ∧ l ≤ u ∧ lo + u.toNat ≤ hi }
        | _, _ => none
      else none
    | none => none
  | _ => none

def aClearB (E : Env) (h : Nat → Option HObj) (t : TypeId) (b k lo hi : Nat) : Option Res :=
  match E.ty t with
  | some { sh := .slice e, .. } =>
    match E.ty e, h b with
    | some j, some (.box cs) =>
      if k = j.size ∧ 0 < k then some { v := .p (.tup []), wr := [(b, .box (cs.take (lo * k) ++ reps (zeroPV j.zero) (hi - lo) ++ cs.drop (hi * k)))], rd := [b], vc := lo ≤ hi ∧ hi * k ≤ cs.length } else none
    | _, _ => none
  | _ => none

def asB : AV → Option (Nat × Nat × Nat × Nat)
  | .bsl b k lo hi => some (b, k, lo, hi)
  | _ => none

def aCallB (E : Env) (ρ : Operand → AV) (h : Nat → Option HObj) (c : Call) : Option (Option Res) :=
  match c.callee with
  | .builtin .len =>
    match c.args.toList, c.argTypes.toList with
    | [x], [t] => (asB (ρ x)).map fun q => match E.ty t with | some { sh := .slice _, .. } => some { v := .p (.sc (.int .i64 (q.2.2.2 - q.2.2.1 : Nat))) } | _ => none
    | _, _ => none
  | .builtin .clear =>
    match c.args.toList, c.argTypes.toList with
    | [x], [t] => (asB (ρ x)).map fun q => aClearB E h t q.1 q.2.1 q.2.2.1 q.2.2.2
    | _, _ => none
  | _ => none

/-- Is it a conversion of texts? -/
def convX (E : Env) (s d : TypeId) : Bool :=
  match E.ty s, E.ty d with
  | some { sh := .str, .. }, some { sh := .str, .. } => true
  | some { sh := .slice _, .. }, some { sh := .str, .. } => true
  | some { sh := .str, .. }, some { sh := .slice _, .. } => true
  | _, _ => false

def aopX (E : Env) (ρ : Operand → AV) (h : Nat → Option HObj) (o : Op) : Option (Option Res) :=
  match o with
  | .binOp op t x y _ => (aBinX E op t (ρ x) (ρ y)).map some
  | .convert s d x => if convX E s d = true then some (aConvX E h s d (ρ x)) else none
  | .indexAddr t x i => (asB (ρ x)).map fun q => aIndexB E t q.1 q.2.1 q.2.2.1 q.2.2.2 (ρ i)
  | .slice t x lo hi none => (asB (ρ x)).map fun q => aSliceB E t q.1 q.2.1 q.2.2.1 q.2.2.2 (lo.map ρ) (hi.map ρ)
  | .call c => aCallB E ρ h c
  | _ => none

def aop (E : Env) (ρ : Operand → AV) (len : Nat) (h : Nat → Option HObj) (o : Op) : Option Res :=
  match aopX E ρ h o with
  | some r => r
  | none => aop0 E ρ len h o

end Go.Proofs.Av

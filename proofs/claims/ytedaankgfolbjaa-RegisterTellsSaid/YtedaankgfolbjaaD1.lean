/- The plain data of the program. Printed by gen_data.py. -/
import Derived.Test.YtedaankgfolbjaaAv18
set_option linter.unusedVariables false
set_option linter.unusedSimpArgs false
namespace Go.Proofs.Av

@[ext] structure Dot where
  r : Int
  n : Int
deriving DecidableEq

instance cellDot : Cell Dot where
  n := 2
  c a := [.sc (.int .i64 a.r), .sc (.int .i64 a.n)]
  d | [.sc (.int .i64 x0), .sc (.int .i64 x1)] => some ⟨x0, x1⟩
    | _ => none
  len _ := rfl
  dc _ := rfl
  rep {S w vs xs a} h k := by
    split at h
    · cases h; exact k
    · cases h
instance : Ty Dot := tyOfCell cellDot
@[simp] theorem n_dot : Cell.n Dot = 2 := rfl
@[simp] theorem c_dot (a : Dot) : Cell.c a = [.sc (.int .i64 a.r), .sc (.int .i64 a.n)] := rfl
@[simp] theorem dc_dot (x0 : Int) (x1 : Int) : Cell.d [.sc (.int .i64 x0), .sc (.int .i64 x1)] = some (⟨x0, x1⟩ : Dot) := rfl
@[simp] theorem e_dot (a : Dot) : Ty.e a = .agg [.sc (.int .i64 a.r), .sc (.int .i64 a.n)] := rfl
@[simp] theorem d_dot (x0 : Int) (x1 : Int) : Ty.d (.agg [.sc (.int .i64 x0), .sc (.int .i64 x1)]) = some (⟨x0, x1⟩ : Dot) := rfl
@[simp] theorem eta_dot (a : Dot) : (⟨a.r, a.n⟩ : Dot) = a := rfl
@[simp] theorem dL_dot (l : List Dot) : dL (α := Dot) Cell.d (l.map fun a => [.sc (.int .i64 a.r), .sc (.int .i64 a.n)]) = some l := dL_map l

@[ext] structure Stamp where
  wall : Int
  count : Int
  who : Int
deriving DecidableEq

instance cellStamp : Cell Stamp where
  n := 3
  c a := [.sc (.int .i64 a.wall), .sc (.int .i64 a.count), .sc (.int .i64 a.who)]
  d | [.sc (.int .i64 x0), .sc (.int .i64 x1), .sc (.int .i64 x2)] => some ⟨x0, x1, x2⟩
    | _ => none
  len _ := rfl
  dc _ := rfl
  rep {S w vs xs a} h k := by
    split at h
    · cases h; exact k
    · cases h
instance : Ty Stamp := tyOfCell cellStamp
@[simp] theorem n_stamp : Cell.n Stamp = 3 := rfl
@[simp] theorem c_stamp (a : Stamp) : Cell.c a = [.sc (.int .i64 a.wall), .sc (.int .i64 a.count), .sc (.int .i64 a.who)] := rfl
@[simp] theorem dc_stamp (x0 : Int) (x1 : Int) (x2 : Int) : Cell.d [.sc (.int .i64 x0), .sc (.int .i64 x1), .sc (.int .i64 x2)] = some (⟨x0, x1, x2⟩ : Stamp) := rfl
@[simp] theorem e_stamp (a : Stamp) : Ty.e a = .agg [.sc (.int .i64 a.wall), .sc (.int .i64 a.count), .sc (.int .i64 a.who)] := rfl
@[simp] theorem d_stamp (x0 : Int) (x1 : Int) (x2 : Int) : Ty.d (.agg [.sc (.int .i64 x0), .sc (.int .i64 x1), .sc (.int .i64 x2)]) = some (⟨x0, x1, x2⟩ : Stamp) := rfl
@[simp] theorem eta_stamp (a : Stamp) : (⟨a.wall, a.count, a.who⟩ : Stamp) = a := rfl
@[simp] theorem dL_stamp (l : List Stamp) : dL (α := Stamp) Cell.d (l.map fun a => [.sc (.int .i64 a.wall), .sc (.int .i64 a.count), .sc (.int .i64 a.who)]) = some l := dL_map l

@[ext] structure Fact where
  dot : Dot
  stamp : Stamp
  kind : Int
  name : ByteArray
  value : ByteArray
deriving DecidableEq

instance cellFact : Cell Fact where
  n := 8
  c a := [.sc (.int .i64 a.dot.r), .sc (.int .i64 a.dot.n), .sc (.int .i64 a.stamp.wall), .sc (.int .i64 a.stamp.count), .sc (.int .i64 a.stamp.who), .sc (.int .i64 a.kind), .sc (.string a.name), .sc (.string a.value)]
  d | [.sc (.int .i64 x0), .sc (.int .i64 x1), .sc (.int .i64 x2), .sc (.int .i64 x3), .sc (.int .i64 x4), .sc (.int .i64 x5), .sc (.string x6), .sc (.string x7)] => some ⟨⟨x0, x1⟩, ⟨x2, x3, x4⟩, x5, x6, x7⟩
    | _ => none
  len _ := rfl
  dc _ := rfl
  rep {S w vs xs a} h k := by
    split at h
    · cases h; exact k
    · cases h
instance : Ty Fact := tyOfCell cellFact
@[simp] theorem n_fact : Cell.n Fact = 8 := rfl
@[simp] theorem c_fact (a : Fact) : Cell.c a = [.sc (.int .i64 a.dot.r), .sc (.int .i64 a.dot.n), .sc (.int .i64 a.stamp.wall), .sc (.int .i64 a.stamp.count), .sc (.int .i64 a.stamp.who), .sc (.int .i64 a.kind), .sc (.string a.name), .sc (.string a.value)] := rfl
@[simp] theorem dc_fact (x0 : Int) (x1 : Int) (x2 : Int) (x3 : Int) (x4 : Int) (x5 : Int) (x6 : ByteArray) (x7 : ByteArray) : Cell.d [.sc (.int .i64 x0), .sc (.int .i64 x1), .sc (.int .i64 x2), .sc (.int .i64 x3), .sc (.int .i64 x4), .sc (.int .i64 x5), .sc (.string x6), .sc (.string x7)] = some (⟨⟨x0, x1⟩, ⟨x2, x3, x4⟩, x5, x6, x7⟩ : Fact) := rfl
@[simp] theorem e_fact (a : Fact) : Ty.e a = .agg [.sc (.int .i64 a.dot.r), .sc (.int .i64 a.dot.n), .sc (.int .i64 a.stamp.wall), .sc (.int .i64 a.stamp.count), .sc (.int .i64 a.stamp.who), .sc (.int .i64 a.kind), .sc (.string a.name), .sc (.string a.value)] := rfl
@[simp] theorem d_fact (x0 : Int) (x1 : Int) (x2 : Int) (x3 : Int) (x4 : Int) (x5 : Int) (x6 : ByteArray) (x7 : ByteArray) : Ty.d (.agg [.sc (.int .i64 x0), .sc (.int .i64 x1), .sc (.int .i64 x2), .sc (.int .i64 x3), .sc (.int .i64 x4), .sc (.int .i64 x5), .sc (.string x6), .sc (.string x7)]) = some (⟨⟨x0, x1⟩, ⟨x2, x3, x4⟩, x5, x6, x7⟩ : Fact) := rfl
@[simp] theorem eta_fact (a : Fact) : (⟨a.dot, a.stamp, a.kind, a.name, a.value⟩ : Fact) = a := rfl
@[simp] theorem dL_fact (l : List Fact) : dL (α := Fact) Cell.d (l.map fun a => [.sc (.int .i64 a.dot.r), .sc (.int .i64 a.dot.n), .sc (.int .i64 a.stamp.wall), .sc (.int .i64 a.stamp.count), .sc (.int .i64 a.stamp.who), .sc (.int .i64 a.kind), .sc (.string a.name), .sc (.string a.value)]) = some l := dL_map l

end Go.Proofs.Av

/- Arithmetic, comparisons, slices, indexes, loads. -/
import Derived.Test.YtedaankgfolbjaaAv7
import Derived.Laws.StructEq
set_option linter.unusedVariables false
set_option linter.unusedSimpArgs false
namespace Go.Proofs.Av
open Go.RowKit

section
variable {P : Program} {E : Env} {G : Stb} {base : Nat} {M : Nat → Prop} {w0 w : World} {hp : List HObj} {bl : Nat → Option Nat} {rv : Nat → Value}
variable {o : Oper} {a : Act} {r : Res}

theorem does_minmax (h : RelH G base M w0 hp bl rv w) (mx : Bool) {args : Array Operand} {ts : Array TypeId} {axs : List AV}
    (ho : o.op = .call { callee := .builtin (if mx then .max else .min), args := args, argTypes := ts })
    (hx : Reps (RepA (cx G hp bl rv w)) (args.toList.map a.eval) axs) (hr : aMinMax mx axs = some r) : Does P o a w (Post G base M w0 hp bl rv w r) := by
  unfold aMinMax at hr
  split at hr
  · rename_i k x k' y
    split at hr
    · rename_i hk
      subst hk
      simp at hr; subst hr
      obtain ⟨l, hl⟩ : ∃ l, args = ⟨l⟩ := ⟨args.toList, rfl⟩
      subst hl
      have hlen := hx.1
      simp at hlen
      match l, hlen with
      | [p, q], _ =>
        have hp1 := (hx.2 0 (a.eval p) _ rfl rfl).scv
        have hq1 := (hx.2 1 (a.eval q) _ rfl rfl).scv
        refine .val _ w ?_ (Post.same h rfl rfl (.p (.sc rfl)))
        cases mx
        · simp [execOp, ho, resolve, invoke, builtin, Builtin.min_, hp1, hq1, Builtin.min2]
        · simp [execOp, ho, resolve, invoke, builtin, Builtin.max_, hp1, hq1, Builtin.max2]
    · cases hr
  · cases hr

theorem does_makeFunc (h : RelH G base M w0 hp bl rv w) {f : FuncId} {caps : Array Operand} {axs : List AV} (ho : o.op = .makeFunc (.func f) #[] caps)
    (hx : Reps (RepA (cx G hp bl rv w)) (caps.toList.map a.eval) axs) : Does P o a w (Post G base M w0 hp bl rv w { v := .fn f axs }) := by
  refine .val (.func (.func f) #[] ((caps.toList.map a.eval).toArray)) w ?_ (Post.same h rfl rfl (.fn hx.1 hx.2))
  simp [execOp, ho, Instr.makeFunc, ← Array.toList_map]

theorem beq_bytes (a b : ByteArray) : (a.toList == b.toList) = (a == b) := (beq_toListBytes a b).symm

theorem int_run (op : BinOp) (k : IntKind) (x y : Int) (v : Value) (t : TypeId) (hv : intBin op k x y = some v) (w : World) : (binOp op t (.int k x) (.int k y)).run P w = .ok v w := by
  cases op <;> simp [intBin] at hv
  case quo => obtain ⟨h0, rfl⟩ := hv; simp [binOp, Op.intDiv, h0]
  case rem => obtain ⟨h0, rfl⟩ := hv; simp [binOp, Op.intDiv, h0]
  all_goals (subst hv; simp [binOp, Op.intArith, Op.intCmp])

theorem str_run (op : BinOp) (x y : ByteArray) (v : Value) (t : TypeId) (hv : strBin op x y = some v) (w : World) : (binOp op t (.string x) (.string y)).run P w = .ok v w := by
  cases op <;> simp [strBin] at hv
  all_goals (subst hv; simp [binOp, Op.stringOp, beq_bytes])

theorem guard_int (op : BinOp) (t : TypeId) (x y : Operand) (k k' : IntKind) (m n : Int) (w : World) : (eqGuard op t x y (.int k m) (.int k' n)).run P w = .ok () w := by
  cases op <;> simp [eqGuard]
theorem guard_str (op : BinOp) (t : TypeId) (x y : Operand) (m n : ByteArray) (w : World) : (eqGuard op t x y (.string m) (.string n)).run P w = .ok () w := by
  cases op <;> simp [eqGuard]
theorem guard_bool (op : BinOp) (t : TypeId) (x y : Operand) (m n : Bool) (w : World) : (eqGuard op t x y (.bool m) (.bool n)).run P w = .ok () w := by
  cases op <;> simp [eqGuard]

theorem dem_agg (h : RelH G base M w0 hp bl rv w) {v : Value} {ax : AV} {xs : List PV} (hx : RepA (cx G hp bl rv w) v ax) (hd : dem (fun i => hp[i]?) ax = some (.agg xs)) : ∃ vs : List Value, v = .agg vs.toArray ∧ Reps (RepP (stb G hp bl rv) w) vs xs := by
  have := h.dem hx hd
  cases this with
  | @agg vs _ hl h1 hr => exact ⟨vs, rfl, hl, hr⟩

theorem does_bin (hE : EnvOk P E) (h : RelH G base M w0 hp bl rv w) {op : BinOp} {t u : TypeId} {x y : Operand} {ax ay : AV} (ho : o.op = .binOp op t x y u) (hx : RepA (cx G hp bl rv w) (a.eval x) ax) (hy : RepA (cx G hp bl rv w) (a.eval y) ay)
    (hr : aBin E (fun i => hp[i]?) op t ax ay = some r) (hvc : r.vc) : Does P o a w (Post G base M w0 hp bl rv w r) := by
  unfold aBin at hr
  split at hr
  · -- strings put together
    rename_i s s'
    simp at hr; subst hr
    simp only at hvc
    refine .val (.string (s ++ s')) w ?_ (Post.same h rfl rfl (.p (.sc rfl)))
    have : ¬ ((s.size + s'.size : Nat) : Int) > IntKind.i64.max := by
      have : IntKind.i64.max = 9223372036854775807 := by decide
      rw [this]; omega
    simp [execOp, ho, hx.scv, hy.scv, guard_str, binOp, Op.stringOp, this]
    omega
  · split at hr
    · rename_i hk
      subst hk
      obtain ⟨v, hv, rfl⟩ := Option.map_eq_some_iff.1 hr
      refine .val v w ?_ (Post.same h rfl rfl (.p (.sc ?_)))
      · simp [execOp, ho, hx.scv, hy.scv, guard_int, int_run _ _ _ _ _ _ hv]
      · revert hv; cases op <;> simp [intBin] <;> (intros; subst_vars; rfl)
    · cases hr
  · obtain ⟨v, hv, rfl⟩ := Option.map_eq_some_iff.1 hr
    refine .val v w ?_ (Post.same h rfl rfl (.p (.sc ?_)))
    · simp [execOp, ho, hx.scv, hy.scv, guard_str, str_run _ _ _ _ _ hv]
    · revert hv; cases op <;> simp [strBin] <;> (intros; subst_vars; rfl)
  · split at hr
    · rename_i ht
      have hu := (hE.ty _ _ ht).bool
      simp at hr; subst hr
      refine .val _ w ?_ (Post.same h rfl rfl (.p (.sc rfl)))
      simp [execOp, ho, hx.scv, hy.scv, guard_bool, binOp, Op.equal, Op.maxDepth, run_equalIn_bool' w _ _ _ _ hu]
    · cases hr
  · split at hr
    · rename_i ht
      have hu := (hE.ty _ _ ht).bool
      simp at hr; subst hr
      refine .val _ w ?_ (Post.same h rfl rfl (.p (.sc rfl)))
      simp [execOp, ho, hx.scv, hy.scv, guard_bool, binOp, Op.equal, Op.maxDepth, run_equalIn_bool' w _ _ _ _ hu]
    · cases hr
  · unfold aEq at hr
    split at hr
    · rename_i hT
      split at hr
      · rename_i xs ys hdx hdy
        obtain ⟨vs, hv, hrx⟩ := dem_agg h hx hdx
        obtain ⟨us, hu, hry⟩ := dem_agg h hy hdy
        split at hr
        · rename_i b hb
          obtain ⟨i, hti, hl1, hl2, hb⟩ : ∃ i, E.ty t = some i ∧ likeAll i.zero xs = true ∧ likeAll i.zero ys = true ∧ cellsEq xs ys = some b := by
            unfold fitEq at hb
            split at hb
            · rename_i i hi
              split at hb
              · rename_i hc
                exact ⟨i, hi, hc.1, hc.2, hb⟩
              · cases hb
            · cases hb
          have hq := hE.eqT _ _ hT hti
          split at hr
          · simp at hr; subst hr
            refine .val (.bool b) w ?_ (Post.same h rfl rfl (.p (.sc rfl)))
            simp [execOp, ho, hv, hu, hq.gd, hq.eq xs ys vs us _ _ b w hl1 hl2 hb hrx hry]
          · simp at hr; subst hr
            refine .val (.bool (!b)) w ?_ (Post.same h rfl rfl (.p (.sc rfl)))
            simp [execOp, ho, hv, hu, hq.gd, hq.ne xs ys vs us _ _ b w hl1 hl2 hb hrx hry]
          · cases hr
        · cases hr
      · cases hr
    · cases hr

theorem natOf_rep {C : Cx} {v : Value} {ax : AV} {n : Int} (hx : RepA C v ax) (hn : natOf ax = some n) : ∃ k, v = .int k n := by
  unfold natOf at hn
  split at hn
  · simp at hn; subst hn; exact ⟨_, hx.scv⟩
  · cases hn

theorem does_indexAddr (hE : EnvOk P E) (h : RelH G base M w0 hp bl rv w) {t : TypeId} {x i : Operand} {ax ai : AV} (ho : o.op = .indexAddr t x i) (hx : RepA (cx G hp bl rv w) (a.eval x) ax) (hi : RepA (cx G hp bl rv w) (a.eval i) ai)
    (hr : aIndexAddr E (fun i => hp[i]?) t ax ai = some r) (hvc : r.vc) : Does P o a w (Post G base M w0 hp bl rv w r) := by
  unfold aIndexAddr at hr
  split at hr
  · rename_i n m e _ _ _ hn ht
    obtain ⟨k, hiv⟩ := natOf_rep hi hn
    have hu := (hE.ty _ _ ht).arr
    split at hr
    · rename_i j b off hj
      have hsz := (hE.ty _ _ hj).sizeOf (P := P) w
      simp at hr; subst hr
      simp only at hvc
      generalize hv : a.eval x = v at *
      cases hx with
      | @ptr b B off' hB =>
        refine .val _ w ?_ (Post.same h rfl rfl (.ptr hB))
        simp [execOp, ho, hv, hiv, Instr.indexAt, asIntOf, run_underlying hu, Instr.sureAddr, hvc.1, hvc.2, hsz, addr_add]
    · rename_i j cs hj
      have hsz := (hE.ty _ _ hj).sizeOf (P := P) w
      simp at hr; subst hr
      simp only at hvc
      generalize hv : a.eval x = v at *
      cases hx with
      | elt b off' g hcell hrep =>
        refine .val _ w ?_ (Post.same h rfl rfl (.elt b (off' + n.toNat * j.size) (fun i => g (n.toNat * j.size + i)) (fun i y hy => ?_) (fun i y hy => ?_)))
        · simp [execOp, ho, hv, hiv, Instr.indexAt, asIntOf, run_underlying hu, Instr.sureAddr, hvc.1, hvc.2, hsz, addr_add]
        · rw [List.getElem?_drop] at hy
          have := hcell _ _ hy
          rw [Nat.add_assoc]
          exact this
        · rw [List.getElem?_drop] at hy
          exact hrep _ _ hy
    · cases hr
  · rename_i n e _ _ _ hn ht
    obtain ⟨k, hiv⟩ := natOf_rep hi hn
    have hu := (hE.ty _ _ ht).slice
    split at hr
    · rename_i j kk es hj hs
      have hsz := (hE.ty _ _ hj).sizeOf (P := P) w
      simp at hr; subst hr
      simp only at hvc
      obtain ⟨hk, h0, h1⟩ := hvc
      have hrep := asSl_rep h hx hs
      generalize hv : a.eval x = v at *
      cases hrep with
      | @sl A nn c _ _ b off g hn' hc hm hA hkk hcell hrep =>
        have hlt : n.toNat < es.length := by omega
        have hke : kk = j.size := by
          rcases hk with hk | hk
          · exact hk
          · subst hk; simp at hlt
        subst hke
        have hget : es[n.toNat]? = some (es.getD n.toNat []) := by simp [List.getD, List.getElem?_eq_getElem hlt]
        obtain rfl := hA (by omega)
        refine .val _ w ?_ (Post.same h rfl rfl (.elt b (off + n.toNat * j.size) (fun i => g n.toNat i) (fun i y hy => ?_) (fun i y hy => hrep _ _ _ _ hget hy)))
        · simp [execOp, ho, hv, hiv, Instr.indexAt, asIntOf, run_underlying hu, h0, hsz, addr_add]
          omega
        · exact hcell _ _ _ _ hget hy
    · cases hr
  · cases hr

theorem does_index (hE : EnvOk P E) (h : RelH G base M w0 hp bl rv w) {t : TypeId} {x i : Operand} {ax ai : AV} (ho : o.op = .index t x i) (hx : RepA (cx G hp bl rv w) (a.eval x) ax) (hi : RepA (cx G hp bl rv w) (a.eval i) ai)
    (hr : aIndex E t ax ai = some r) (hvc : r.vc) : Does P o a w (Post G base M w0 hp bl rv w r) := by
  unfold aIndex at hr
  split at hr
  · rename_i n m e _ _ _ hn ht
    obtain ⟨k, hiv⟩ := natOf_rep hi hn
    have hu := (hE.ty _ _ ht).arr
    split at hr
    · rename_i j hj
      have hsz := (hE.ty _ _ hj).sizeOf (P := P) w
      split at hr
      · rename_i hag
        split at hr
        · rename_i r' hr'
          simp at hr; subst hr
          simp only at hvc
          obtain ⟨vs, hv, hrp, h1⟩ := isAgg_cells hx hag
          obtain ⟨v, hrun, hrep, e1, e2⟩ := part_run (P := P) (w := w) hE hrp h1 hr' hvc.2
          refine .val v w ?_ (Post.same h e1 e2 hrep)
          simp [execOp, ho, hv, hiv, Instr.index, asIntOf, run_underlying hu, hvc.1.1, hvc.1.2, hsz, hrun]
        · cases hr
      · cases hr
    · cases hr
  · rename_i n _ _ _ hn ht
    obtain ⟨k, hiv⟩ := natOf_rep hi hn
    have hu := (hE.ty _ _ ht).str
    split at hr
    · rename_i s
      simp at hr; subst hr
      simp only at hvc
      have hlt : n.toNat < s.size := by omega
      have hlt' : n.toNat < s.data.toList.length := by simpa using hlt
      refine .val _ w ?_ (Post.same h rfl rfl (.p (.sc rfl)))
      have hb : s[n.toNat]? = some (s.data.toList.getD n.toNat 0) := by
        simp only [List.getD, List.getElem?_eq_getElem hlt', Option.getD_some]
        rw [getElem?_pos s n.toNat hlt]
        rfl
      simp [execOp, ho, hx.scv, hiv, Instr.index, asIntOf, run_underlying hu, hvc.1, hb]
    · cases hr
  · cases hr

end
end Go.Proofs.Av

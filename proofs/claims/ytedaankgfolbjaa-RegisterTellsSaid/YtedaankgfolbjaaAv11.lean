/- Appends and calls; any operation of those that the evaluator knows. -/
import Derived.Test.YtedaankgfolbjaaAv10
set_option linter.unusedVariables false
set_option linter.unusedSimpArgs false
namespace Go.Proofs.Av
open Go.RowKit

section
variable {P : Program} {E : Env} {G : Stb} {base : Nat} {M : Nat → Prop} {w0 w : World} {hp : List HObj} {bl : Nat → Option Nat} {rv : Nat → Value}
variable {o : Oper} {a : Act} {r : Res}

/-- A plain slice's cells, one behind the other. -/
theorem sl_news {S : Stb} {v : Value} {k : Nat} {es : List (List PV)} (h : RepP S w v (.sl k es)) (hk0 : 0 < k) : ∃ (A : Option Addr) (c : Nat) (news : List Value), v = .slice A es.length c ∧ news.length = es.length * k ∧
    (0 < es.length → ∃ a, A = some a ∧ ∀ (j : Nat) u, news[j]? = some u → w.cell? (a.add j) = some u) ∧ (∀ u ∈ news, u.oneCell' = true) ∧
    ∀ (i j : Nat) el x, es[i]? = some el → el[j]? = some x → ∃ u, news[i * k + j]? = some u ∧ RepP S w u x := by
  cases h with
  | @sl A n c _ _ b off g hn hc hm hA hk hcell hrep =>
    subst hn
    have key : ∀ q, q < es.length * k → ∃ el x, es[q / k]? = some el ∧ el[q % k]? = some x := by
      intro q hq
      have hi : q / k < es.length := by rw [Nat.div_lt_iff_lt_mul hk0]; exact hq
      have hj : q % k < k := Nat.mod_lt _ hk0
      have hel : es[q / k].length = k := hk _ (List.getElem_mem hi)
      exact ⟨es[q / k], es[q / k][q % k]'(by omega), List.getElem?_eq_getElem hi, List.getElem?_eq_getElem _⟩
    have hget : ∀ j u, ((List.range (es.length * k)).map fun q => g (q / k) (q % k))[j]? = some u → u = g (j / k) (j % k) ∧ j < es.length * k := by
      intro j u hj
      obtain ⟨j', hj', rfl⟩ := map_getElem? _ _ _ _ hj
      have hlt : j < es.length * k := by simpa using (List.getElem?_eq_some_iff.1 hj').1
      rw [List.getElem?_range hlt] at hj'
      cases hj'
      exact ⟨rfl, hlt⟩
    refine ⟨A, c, (List.range (es.length * k)).map fun q => g (q / k) (q % k), rfl, by simp, fun hpos => ⟨⟨b, off, none⟩, hA hpos, fun j u hj => ?_⟩, ?_, ?_⟩
    · obtain ⟨rfl, hlt⟩ := hget j u hj
      obtain ⟨el, x, h1, h2⟩ := key j hlt
      have := (hcell _ _ _ _ h1 h2).1
      rw [addr_add]
      rw [show off + j / k * k + j % k = off + j from by have := Nat.div_add_mod j k; rw [Nat.mul_comm] at this; omega] at this
      exact this
    · intro u hu
      obtain ⟨j, hj⟩ := List.getElem?_of_mem hu
      obtain ⟨rfl, hlt⟩ := hget j u hj
      obtain ⟨el, x, h1, h2⟩ := key j hlt
      exact (hcell _ _ _ _ h1 h2).2.2
    · intro i j el x hel hx
      have hi : i < es.length := (List.getElem?_eq_some_iff.1 hel).1
      have hj : j < k := by rw [← hk el (List.mem_of_getElem? hel)]; exact (List.getElem?_eq_some_iff.1 hx).1
      have hlt : i * k + j < es.length * k := by
        have := Nat.mul_le_mul_right k (show i + 1 ≤ es.length from hi)
        rw [Nat.add_mul] at this
        omega
      refine ⟨g i j, ?_, hrep i j el x hel hx⟩
      rw [List.getElem?_map, List.getElem?_range hlt]
      simp only [Option.map_some]
      have h1 : (i * k + j) / k = i := by rw [Nat.mul_comm, Nat.mul_add_div hk0, Nat.div_eq_of_lt hj, Nat.add_zero]
      have h2 : (i * k + j) % k = j := by rw [Nat.mul_comm, Nat.mul_add_mod, Nat.mod_eq_of_lt hj]
      rw [h1, h2]

theorem does_append (hE : EnvOk P E) (h : RelH G base M w0 hp bl rv w) {t : TypeId} {x y : Operand} {ax ay : AV} (ho : o.op = .call { callee := .builtin .append, args := #[x, y], argTypes := #[t, t] })
    (hx : RepA (cx G hp bl rv w) (a.eval x) ax) (hy : RepA (cx G hp bl rv w) (a.eval y) ay) (hr : aAppend E (fun i => hp[i]?) t ax ay = some r) (hvc : r.vc) : Does P o a w (Post G base M w0 hp bl rv w r) := by
  unfold aAppend at hr
  split at hr
  · rename_i e _ _ _ ht
    split at hr
    · rename_i i q u k' new hi hs
      split at hr
      · rename_i e' k ver es hrow
        split at hr
        · rename_i huv
          obtain ⟨huv, hraw⟩ := huv
          subst huv
          simp at hr; subst hr
          simp only at hvc
          obtain ⟨hek, hk', hpos, hzl, hb1, hb2⟩ := hvc
          have hu := (hE.ty _ _ ht).slice
          have hT := hE.ty _ _ hi
          obtain ⟨j, hj, hsz, hby, z, hz, hzc⟩ := hT.info
          have hzs : z.cells.size = i.size := by rw [← hzl, ← hzc]; simp
          have hxv : a.eval x = rv q := by
            generalize a.eval x = v at hx ⊢
            cases hx with
            | own hw hle heq h1 =>
              simp only [cx] at hw
              rw [rwOf_row hrow] at hw
              simp at hw
              obtain ⟨rfl, rfl⟩ := hw
              exact heq rfl
          have hyrep := asSl_rep h hy hs
          have hyrep' : RepP (stb G hp bl rv) w (a.eval y) (.sl i.size new) := by
            rcases hk' with hk' | hk'
            · rw [← hk']; exact hyrep
            · subst hk'
              generalize a.eval y = v at *
              cases hyrep with
              | sl b off g hn hc hm hA hk hcell hrep => exact .sl b off g hn hc hm hA (by simp) (by simp) (by simp)
          obtain ⟨A, c, news, hyv, hnl, hna, hn1, hnr⟩ := sl_news hyrep' hpos
          have hnk : ∀ el ∈ new, el.length = i.size := by
            generalize a.eval y = v at *
            cases hyrep' with
            | sl b off g hn hc hm hA hk hcell hrep => exact hk
          -- the row as it stands
          have hown : ∃ xs, w.ownsRow base e i.size (rv q) es.length xs ∧ (∀ x ∈ xs, x.oneCell' = true) ∧ (∀ el ∈ es, el.length = i.size) ∧
              ∀ (i' j : Nat) el x, es[i']? = some el → el[j]? = some x → ∃ u, xs[i' * i.size + j]? = some u ∧ RepP (stb G hp bl rv) w u x := by
            rcases h.row q _ _ _ _ hrow with ⟨_, rfl, hv⟩ | ⟨hkp, xs, ho1, h1, h2, h3⟩
            · rw [hv]
              exact ⟨[], World.ownsRow_nil w base e i.size, by simp, by simp, by simp⟩
            · rcases hek with ⟨rfl, rfl⟩ | hk0
              · rw [ety_small hraw] at ho1; exact ⟨xs, ho1, h1, h2, h3⟩
              · omega
          obtain ⟨xs, ho1, h1, h2, h3⟩ := hown
          obtain ⟨v', w', hrun, hown', hat, hdr⟩ := run_append_two (P := P) w base t o.type e j z i.size i.bytes hu hj hz hsz hby hzs hpos (rv q) es.length xs ho1 (a.eval y) A new.length c hyv news hnl hna hn1
            (by simp [maxLen]; omega) hb1 h.hb
          obtain ⟨hR, hle⟩ := h.append hrow hek hraw hpos ho1 h1 h2 h3 hn1 hnk hnl hnr hown' hdr hat
          refine .val v' w' ?_ ⟨bl, rvSet rv q v', ?_, ?_, ?_⟩
          · simp [execOp, ho, resolve, invoke, builtin, hxv, hrun]
          · simpa [Res.app, setMany] using hR
          · simpa [Res.app, setMany] using hle
          · simp only [Res.app, setMany, List.append_nil]
            have hql : q < hp.length := (List.getElem?_eq_some_iff.1 hrow).1
            refine .own (ver := u + 1) (val := v') ?_ (Nat.le_refl _) (fun _ => rfl) ?_
            · simp only [cx]
              rw [rwOf_row (e := e) (k := i.size) (ver := u + 1) (es := es ++ new) (by simp [hql])]
              simp [rvSet]
            · rcases hown'.2 with ⟨rfl, _⟩ | ⟨g, cap, cur, rfl, _⟩ <;> rfl
        · cases hr
      · cases hr
    · cases hr
  · cases hr

theorem does_call (hE : EnvOk P E) (h : RelH G base M w0 hp bl rv w) {f : Operand} {args : Array Operand} {ts : Array TypeId} {af : AV} {axs : List AV} (ho : o.op = .call { callee := .value f, args := args, argTypes := ts })
    (hf : RepA (cx G hp bl rv w) (a.eval f) af) (hx : Reps (RepA (cx G hp bl rv w)) (args.toList.map a.eval) axs) (hr : aCall E hp.length (fun i => hp[i]?) af axs = some r) (hvc : r.vc) :
    Does P o a w (Post G base M w0 hp bl rv w r) := by
  unfold aCall at hr
  split at hr
  · rename_i g caps
    generalize hv : a.eval f = v at *
    cases hf with
    | @fn _ vs _ hl hrp =>
      have hargs : Reps (RepA (cx G hp bl rv w)) (args.toList.map a.eval ++ vs) (axs ++ caps) := hx.app ⟨hl, hrp⟩
      have harr : (args.map a.eval) ++ vs.toArray = (args.toList.map a.eval ++ vs).toArray := by
        apply Array.toList_inj.1
        simp
      split at hr
      · rename_i s hs
        obtain ⟨hp1, hen⟩ := hE.pure g s hs
        split at hr
        · rename_i xs hxs
          cases hr
          simp only at hvc
          obtain ⟨y, hy⟩ := Option.isSome_iff_exists.1 hvc
          have hd := h.demAll hargs hxs
          rw [hy]
          simp only [Option.getD_some]
          refine .call g _ ?_ ((hp1 (stb G hp bl rv) w _ xs y (fun b o hb => h.fresh hb o) hd hy).mono fun e w' ⟨v, he, hb, hrep⟩ => ⟨v, he, Post.below h rfl rfl hb (.p hrep)⟩)
          simp [execOp, ho, resolve, hv, Deferred.ofValue, invoke, hen _ _, harr]
        · cases hr
      · split at hr
        · rename_i s hs
          obtain ⟨hp1, hen, _⟩ := hE.heap g s hs
          refine .call g _ ?_ ((hp1 G base M w0 hp bl rv w _ _ r h hargs hr hvc).mono fun e w' ⟨v, bl', rv', he, h1, h2, h3⟩ => ⟨v, he, bl', rv', h1, h2, h3⟩)
          simp [execOp, ho, resolve, hv, Deferred.ofValue, invoke, hen _ _, harr]
        · cases hr
  · cases hr

theorem reps_map {C : Cx} (ρ : Operand → AV) : ∀ (l : List Operand), (∀ x ∈ l, RepA C (a.eval x) (ρ x)) → Reps (RepA C) (l.map a.eval) (l.map ρ)
  | [], _ => Reps.nil
  | x :: l, h => .cons (h x (by simp)) (reps_map ρ l (fun y hy => h y (by simp [hy])))

theorem reps_parts {C : Cx} (ρ : Operand → AV) : ∀ (l : List (Nat × Operand)), (∀ q ∈ l, RepA C (a.eval q.2) (ρ q.2)) →
    Reps (fun (p : Nat × Value) (q : Nat × AV) => p.1 = q.1 ∧ RepA C p.2 q.2) (l.map fun q => (q.1, a.eval q.2)) (l.map fun q => (q.1, ρ q.2))
  | [], _ => Reps.nil
  | x :: l, h => .cons ⟨rfl, h x (by simp)⟩ (reps_parts ρ l (fun y hy => h y (by simp [hy])))

/-- **An operation that the evaluator knows does what it says.** -/
theorem aop0_does (hE : EnvOk P E) (h : RelH G base M w0 hp bl rv w) (ρ : Operand → AV) (hρ : ∀ x ∈ o.op.operands, RepA (cx G hp bl rv w) (a.eval x) (ρ x))
    (hr : aop0 E ρ hp.length (fun i => hp[i]?) o.op = some r) (hvc : r.vc) : Does P o a w (Post G base M w0 hp bl rv w r) := by
  generalize hop : o.op = op at *
  unfold aop0 at hr
  split at hr
  · simp at hr; subst hr
    exact does_move h hop (hρ _ (by simp [Op.operands]))
  · split at hr
    · rename_i hn
      simp at hr; subst hr
      exact does_assign_nil h hop hn
    · simp at hr; subst hr
      exact does_assign h hop (hρ _ (by simp [Op.operands]))
  · exact does_pick h hop (hρ _ (by simp [Op.operands])) (hρ _ (by simp [Op.operands])) (hρ _ (by simp [Op.operands])) hr hvc
  · exact does_alloc hE h hop hr
  · split at hr
    · rename_i hk
      simp at hr; subst hr
      exact does_box h hop (hρ _ (by simp [Op.operands])) hk
    · cases hr
  · rename_i t parts
    exact does_build hE h hop (reps_parts ρ parts.toList (fun q hq => hρ q.2 (by simp [Op.operands]; exact ⟨q.1, by simpa using hq⟩))) hr
  · rename_i t n parts
    split at hr
    · rename_i hn
      obtain ⟨rfl, hn⟩ := hn
      exact does_empty hE h hop hn hr
    exact does_buildSlice hE h hop (reps_parts ρ parts.toList (fun q hq => hρ q.2 (by simp [Op.operands]; exact ⟨q.1, by simpa using hq⟩))) hr
  · exact does_load hE h hop (hρ _ (by simp [Op.operands])) hr hvc
  · exact does_store hE h hop (hρ _ (by simp [Op.operands])) (hρ _ (by simp [Op.operands])) hr hvc
  · exact does_nil h hop (hρ _ (by simp [Op.operands])) hr
  · exact does_bin hE h hop (hρ _ (by simp [Op.operands])) (hρ _ (by simp [Op.operands])) hr hvc
  · exact does_un h hop (hρ _ (by simp [Op.operands])) hr
  · exact does_conv hE h hop (hρ _ (by simp [Op.operands])) hr
  · exact does_slice hE h hop (hρ _ (by simp [Op.operands])) (fun z hz => hρ z (by subst hz; simp [Op.operands])) (fun z hz => hρ z (by subst hz; simp [Op.operands])) hr hvc
  · exact does_fieldAddr hE h hop (hρ _ (by simp [Op.operands])) hr
  · exact does_field hE h hop (hρ _ (by simp [Op.operands])) hr hvc
  · exact does_indexAddr hE h hop (hρ _ (by simp [Op.operands])) (hρ _ (by simp [Op.operands])) hr hvc
  · exact does_index hE h hop (hρ _ (by simp [Op.operands])) (hρ _ (by simp [Op.operands])) hr hvc
  · exact does_extract h hop (hρ _ (by simp [Op.operands])) hr
  · rename_i fn first caps
    unfold aMakeFunc at hr
    split at hr
    · rename_i f hl
      simp at hr; subst hr
      have hfirst : first = #[] := Array.toList_inj.1 hl
      subst hfirst
      exact does_makeFunc h hop (reps_map ρ caps.toList (fun x hx => hρ x (by simp [Op.operands]; simpa using hx)))
    · cases hr
  · rename_i c
    obtain ⟨callee, args, ts⟩ := c
    unfold aopCall at hr
    split at hr
    · rename_i hc
      simp only at hc
      subst hc
      split at hr
      · rename_i x t hx ht
        obtain rfl : args = #[x] := Array.toList_inj.1 hx
        obtain rfl : ts = #[t] := Array.toList_inj.1 ht
        exact does_len hE h hop (hρ _ (by simp [Op.operands, Call.operands])) hr
      · cases hr
    · rename_i hc
      simp only at hc
      subst hc
      exact does_minmax h false hop (reps_map ρ args.toList (fun x hx => hρ x (by simp [Op.operands, Call.operands]; simpa using hx))) hr
    · rename_i hc
      simp only at hc
      subst hc
      exact does_minmax h true hop (reps_map ρ args.toList (fun x hx => hρ x (by simp [Op.operands, Call.operands]; simpa using hx))) hr
    · rename_i hc
      simp only at hc
      subst hc
      split at hr
      · rename_i x y t u hx ht
        obtain rfl : args = #[x, y] := Array.toList_inj.1 hx
        obtain rfl : ts = #[t, u] := Array.toList_inj.1 ht
        split at hr
        · rename_i htu
          subst htu
          exact does_append hE h hop (hρ _ (by simp [Op.operands, Call.operands])) (hρ _ (by simp [Op.operands, Call.operands])) hr hvc
        · cases hr
      · cases hr
    · rename_i f hc
      simp only at hc
      subst hc
      exact does_call hE h hop (hρ _ (by simp [Op.operands, Call.operands])) (reps_map ρ args.toList (fun x hx => hρ x (by simp [Op.operands, Call.operands]; exact .inr (by simpa using hx)))) hr hvc
    · cases hr
  · cases hr

end
end Go.Proofs.Av

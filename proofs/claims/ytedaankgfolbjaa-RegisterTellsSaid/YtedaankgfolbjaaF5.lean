/- Registers: the elements; what the law asks. -/
import Derived.Test.YtedaankgfolbjaaF4
set_option linter.unusedVariables false
set_option linter.unusedSimpArgs false
namespace Go.Proofs.Av
open Go.Proofs

theorem regAll_length (l : List Fact) : (regAll l).length = l.length := by simp [regAll, regSort_length]
theorem sortStr_length (l : List ByteArray) : (sortStr l).length = l.length := by simp [sortStr]

/-- register.Elements -/
def regElements (l : List Fact) : List ByteArray := packStr (sortStr (regAll l))
def s99 (l : List Fact) : Option (List ByteArray) := if l.length ≤ lim then some (regElements l) else none
abbrev E99 : Env := mkE ty [] [] [(97, hG 9 (gn1 s97)), (185, hP false 9 [] s185), (186, hC true 9 [] s186)]
theorem E99ok : EnvOk Try.prog E99 := mkE_ok tyOk (by simp) (by simp)
  (by simp only [List.mem_cons, List.not_mem_nil, or_false, forall_eq_or_imp, forall_eq]; exact ⟨⟨c97.heap (by decide), n97, hG_frame _ _⟩, ⟨c185.heap false (by decide), n185, hP_frame _ _ _ _⟩, c186.heap true (by decide), n186, hC_frame _ _ _ _⟩)
theorem c99 : PureC Try.prog 99 (fn1 s99) := by
  refine pure1 E99ok mixed Try.func99 rfl rfl (by decide) fun l l' hs hf => ?_
  unfold s99 at hs
  split at hs
  · rename_i hlim
    cases hs
    simp [lim] at hlim
    simp [Try.f99, s97, s185, s186, lim, hlim, regAll_length, sortStr_length, regElements]
  · cases hs
theorem n99 : Enters Try.prog 99 := Go.Proofs.enters_of Try.func99 (by kernel_rfl) rfl

/-- A slice that is no one else's, as a plain one. -/
theorem RowOk.rep {base : Nat} {S : Stb} {w : World} {v : Value} {e k : Nat} {es : List (List PV)} (h : RowOk base noS w v e k es) (hS : ∀ b o, base ≤ b → S b o) : RepP S w v (.sl k es) := by
  have nil : RepP S w (.slice none 0 0) (.sl k []) := .sl 0 0 (fun _ _ => undef) rfl (Nat.le_refl _) (by simp [maxLen]) (fun h => absurd h (Nat.lt_irrefl 0)) (by simp) (by simp) (by simp)
  rcases h with ⟨rfl, rfl, rfl⟩ | ⟨hk, xs, ho, h1, h2, h3⟩
  · exact nil
  · rcases ho.2 with ⟨rfl, hn⟩ | ⟨g, cap, cur, rfl, hbg, hg, hnc, hcm, hcs, htake⟩
    · obtain rfl : es = [] := List.eq_nil_of_length_eq_zero hn
      exact nil
    · refine .sl g 0 (fun i j => xs.getD (i * k + j) undef) rfl hnc hcm (fun _ => rfl) h2 (fun i j el x he hx => ?_) (fun i j el x he hx => ?_)
      · obtain ⟨u, hu, _⟩ := h3 i j el x he hx
        have hd : xs.getD (i * k + j) undef = u := by simp [List.getD, hu]
        rw [hd]
        exact ⟨by rw [Nat.zero_add]; exact ownsRow_cell ho rfl hu, hS _ _ hbg, h1 u (List.mem_of_getElem? hu)⟩
      · obtain ⟨u, hu, hrep⟩ := h3 i j el x he hx
        have hd : xs.getD (i * k + j) undef = u := by simp [List.getD, hu]
        rw [hd]
        exact hrep.mono (fun b o u s => s.elim)

/-- register.All, its slice set free. -/
theorem freeG {β : Type} [Cell β] [Sca β] {f : FuncId} {e : Nat} {s : List PV → Option (List β)} (hc : FreshC Try.prog f e s) : PureC Try.prog f (fun xs => (s xs).map Ty.e) := by
  intro S w vs xs y hS hr hy
  obtain ⟨l, hl, rfl⟩ := Option.map_eq_some_iff.1 hy
  exact (hc S w vs xs l hS hr hl).mono fun r w' ⟨v, h1, h2, h3⟩ => ⟨v, h1, h2, h3.rep hS⟩
def t97 : List PV → Option PV := fun xs => (gn1 s97 xs).map Ty.e
theorem p97 : PureC Try.prog 97 t97 := freeG c97

/-- almonrylaw17.awake -/
def s92 : Bool := true
abbrev E92 : Env := mkE ty [] [(181, fn3 s181), (95, fn3 s95), (93, fn1 s93), (99, fn1 s99), (97, t97), (34, fn2 s34)] []
theorem E92ok : EnvOk Try.prog E92 := mkE_ok tyOk (by simp)
  (by simp only [List.mem_cons, List.not_mem_nil, or_false, forall_eq_or_imp, forall_eq]; exact ⟨⟨c181, n181⟩, ⟨c95, n95⟩, ⟨c93, n93⟩, ⟨c99, n99⟩, ⟨p97, n97⟩, c34, n34⟩) (by simp)

end Go.Proofs.Av

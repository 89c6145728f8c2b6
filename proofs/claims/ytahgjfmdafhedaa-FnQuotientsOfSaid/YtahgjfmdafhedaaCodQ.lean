/- What the laws on tables say of ranks and of factors. Plain. Checks of codes: checks of checks are sums of the rows; ranks of checks by ranks of rows. Plain. Words and checks, words and factors. Plain. -/
import Derived.Test.YtahgjfmdafhedaaPlaM
import Derived.Test.YtahgjfmdafhedaaCodP
import Derived.Test.YtahgjfmdafhedaaNulk
import Derived.Test.YtahgjfmdafhedaaSolveRows
namespace Go.Proofs.Ytahgjfmdafhedaa
open Go.RowKit Mat
set_option linter.unusedVariables false

section
variable {p : Nat} [NeZero p]

theorem rank_of_ind (hp : Pr p) {n : Nat} {rows out : List (List Int)} (h : IsRed p n rows out) (hi : Ind (mat p rows) rows.length) : out.length = rows.length := by
  have h1 := dim_le hp (fun i hi => h.row_in hi) hi
  have h2 := h.le_rows hp
  omega
theorem IsRed.span_eq {n : Nat} {R R' A : List (List Int)} (h : IsRed p n R A) (hs : ∀ v, Span (mat p R) R.length v ↔ Span (mat p R') R'.length v) : IsRed p n R' A :=
  ⟨⟨h.inv.good, h.inv.lead, h.inv.rr, fun v => (hs v).symm.trans (h.inv.span v)⟩, h.asc⟩

theorem span_snoc_up {R : List (List Int)} {x : List Int} {v : Nat → Fin p} (h : Span (mat p R) R.length v) : Span (mat p (R ++ [x])) (R ++ [x]).length v := by
  refine h.mono (fun i hi => ?_)
  have := Span.row (mat p (R ++ [x])) (m := (R ++ [x]).length) (i := i) (by rw [List.length_append]; simp; omega)
  exact this.congr (fun k => by show vec p (gr R i) k = vec p (gr (R ++ [x]) i) k; rw [gr_snoc_lt hi])
theorem span_snoc_last (R : List (List Int)) (x : List Int) : Span (mat p (R ++ [x])) (R ++ [x]).length (vec p x) := by
  have := Span.row (mat p (R ++ [x])) (m := (R ++ [x]).length) (i := R.length) (by rw [List.length_append]; simp)
  exact this.congr (fun k => by show vec p x k = vec p (gr (R ++ [x]) R.length) k; rw [gr_snoc_eq rfl])
theorem span_snoc_down {R : List (List Int)} {x : List Int} (hx : Span (mat p R) R.length (vec p x)) {v : Nat → Fin p} (h : Span (mat p (R ++ [x])) (R ++ [x]).length v) : Span (mat p R) R.length v := by
  refine h.mono (fun i hi => ?_)
  rw [List.length_append, List.length_singleton] at hi
  by_cases e : i < R.length
  · exact (Span.row (mat p R) e).congr (fun k => by show vec p (gr (R ++ [x]) i) k = vec p (gr R i) k; rw [gr_snoc_lt e])
  · exact hx.congr (fun k => by show vec p (gr (R ++ [x]) i) k = vec p x k; rw [gr_snoc_eq (by omega)])

/-- A goal raises the rank just if it is no sum of the rows. -/
theorem rank_more (hp : Pr p) {n : Nat} {rows out out2 : List (List Int)} {goal : List Int} (h : IsRed p n rows out) (h2 : IsRed p n (rows ++ [goal]) out2) :
    out2.length = out.length ↔ Span (mat p rows) rows.length (vec p goal) := by
  constructor
  · intro e
    refine (h.inv.span _).2 (span_full hp (R := mat p out) (S := mat p out2) (m := out.length) h.ind (fun i hi => ?_) ?_)
    · rw [← e]
      exact (h2.inv.span _).1 (span_snoc_up (h.out_in hi))
    · rw [← e]
      exact (h2.inv.span _).1 (span_snoc_last rows goal)
  · intro hs
    have h3 : IsRed p n rows out2 := h2.span_eq (fun v => ⟨span_snoc_down hs, span_snoc_up⟩)
    rw [h3.unique hp h]

/-- The sum of the products, not yet divided. -/
def fsum (f : List Int) (rows : List (List Int)) (k : Nat) : Nat → Int
  | 0 => 0
  | i + 1 => fsum f rows k i + gi f i * gi (gr rows i) k
theorem fsum_phi (f : List Int) (rows : List (List Int)) (k : Nat) : ∀ m, phi p (fsum f rows k m) = sm (fun i => vec p f i * mat p rows i k) m
  | 0 => phi_zero
  | m + 1 => by
    rw [fsum, phi_add, phi_mul, fsum_phi f rows k m]
    rfl
theorem fsum_goal {n : Nat} {f goal : List Int} {rows : List (List Int)} (hg : GoodRow p n goal) {k : Nat} (hk : k < n) (h : vec p goal k = sm (fun i => vec p f i * mat p rows i k) rows.length) : fsum f rows k rows.length % p = gi goal k := by
  have h1 : phi p (fsum f rows k rows.length) = phi p (gi goal k) := by rw [fsum_phi]; exact h.symm
  have h2 := phi_inj h1
  rw [h2]
  exact Int.emod_eq_of_lt (hg.2 k hk).1 (hg.2 k hk).2
end
theorem fsum_range {q : Nat} {f : List Int} {rows : List (List Int)} {k : Nat} (hq : q ≤ 7) : ∀ m, (∀ i, i < m → 0 ≤ gi f i ∧ gi f i < q) → (∀ i, i < m → 0 ≤ gi (gr rows i) k ∧ gi (gr rows i) k < q) → 0 ≤ fsum f rows k m ∧ fsum f rows k m ≤ 36 * m
  | 0, _, _ => ⟨Int.le_refl _, by simp [fsum]⟩
  | m + 1, hf, hr => by
    have h := fsum_range hq m (fun i hi => hf i (by omega)) (fun i hi => hr i (by omega))
    have h1 := hf m (by omega)
    have h2 := hr m (by omega)
    have h3 : 0 ≤ gi f m * gi (gr rows m) k := Int.mul_nonneg h1.1 h2.1
    have h4 : gi f m * gi (gr rows m) k ≤ 6 * 6 := Int.mul_le_mul (by omega) (by omega) h2.1 (by omega)
    rw [fsum]
    omega
end Go.Proofs.Ytahgjfmdafhedaa

namespace Go.Proofs.Ytahgjfmdafhedaa
open Go.RowKit Mat
set_option linter.unusedVariables false

section
variable {q : Nat} [NeZero q]
theorem dt_comm (n : Nat) (u v : Nat → Fin q) : dt n u v = dt n v u := sm_congr (fun i _ => by grind)

theorem TabOk.ind_valid {n : Nat} {rows : List (List Int)} (h : TabOk q n rows) (hi : Ind (mat q rows) rows.length) (h4 : rows.length ≤ 4) : ValidC q rows := by
  obtain ⟨o, ho⟩ := IsRed.exists h.pr h.good
  exact ⟨h.vtB, h4, o, ⟨q, _, rfl, h.pr, by rw [h.cols]; exact ho⟩, rank_of_ind h.pr ho hi⟩
theorem CodeOk.valid {n : Nat} {rows : List (List Int)} (h : CodeOk q n rows) : ValidC q rows := h.tab.ind_valid h.ind h.r4

/-- The checks of a code. -/
theorem NulC.at {rows checks : List (List Int)} {n : Nat} (h : NulC q rows checks) (ht : TabOk q n rows) : ∃ a, IsRed q n rows a ∧ checks = nlTo q n a n := by
  obtain ⟨q', i2, e', _, a, hra, hoa⟩ := h
  obtain rfl : q = q' := by omega
  rw [ht.cols] at hra hoa
  exact ⟨a, hra, hoa⟩
theorem red_len {n : Nat} {rows a : List (List Int)} (h : CodeOk q n rows) (hr : IsRed q n rows a) : a.length = rows.length := rank_of_ind h.tab.pr hr h.ind
theorem CodeOk.dual {n : Nat} {rows a : List (List Int)} (h : CodeOk q n rows) (hr : IsRed q n rows a) (h1 : 1 ≤ (nlTo q n a n).length) (h4 : (nlTo q n a n).length ≤ 4) : CodeOk q n (nlTo q n a n) := by
  have hg := nlTo_good h.tab.pr n a n
  exact ⟨⟨h.tab.pr, hg, (hg 0 h1).1, h.tab.n7, h.tab.n1, h1, by omega⟩, h4, nulls_ind h.tab.pr a⟩
theorem CodeOk.dual_len {n : Nat} {rows a : List (List Int)} (h : CodeOk q n rows) (hr : IsRed q n rows a) : (nlTo q n a n).length + rows.length = n := by
  have h1 := nlTo_count hr
  rw [red_len h hr] at h1
  exact h1
theorem mat_ge {n : Nat} {rows : List (List Int)} (hg : GoodRows q n rows) {i k : Nat} (hi : i < rows.length) (hk : n ≤ k) : mat q rows i k = 0 := vec_ge (by rw [(hg i hi).1]; exact hk)
/-- What is orthogonal to all checks is a sum of the rows. -/
theorem CodeOk.dual_span {n : Nat} {rows a b : List (List Int)} (h : CodeOk q n rows) (hr : IsRed q n rows a) (h1 : 1 ≤ (nlTo q n a n).length) (h4 : (nlTo q n a n).length ≤ 4) (hb : IsRed q n (nlTo q n a n) b) (v : Nat → Fin q) :
    Span (mat q rows) rows.length v ↔ Span (mat q (nlTo q n b n)) (nlTo q n b n).length v := by
  have hd := h.dual hr h1 h4
  have hl1 := h.dual_len hr
  have hl2 := hd.dual_len hb
  have hl : (nlTo q n b n).length = rows.length := by omega
  have hin : ∀ i, i < rows.length → Span (mat q (nlTo q n b n)) (nlTo q n b n).length (mat q rows i) := fun i hi =>
    nulls_all h.tab.pr hb (fun k hk => by rw [dt_comm]; exact nulls_orth h.tab.pr hr hk hi) (fun k hk => mat_ge h.tab.good hi hk)
  rw [hl] at hin ⊢
  exact ⟨fun hv => hv.mono hin, fun hv => span_full h.tab.pr h.ind hin hv⟩
theorem CodeOk.dual_dual {n : Nat} {rows a b c : List (List Int)} (h : CodeOk q n rows) (hr : IsRed q n rows a) (h1 : 1 ≤ (nlTo q n a n).length) (h4 : (nlTo q n a n).length ≤ 4) (hb : IsRed q n (nlTo q n a n) b) (hc : IsRed q n (nlTo q n b n) c) : c = a :=
  (hc.span_eq (fun v => (h.dual_span hr h1 h4 hb v).symm)).unique h.tab.pr hr
end
end Go.Proofs.Ytahgjfmdafhedaa

namespace Go.Proofs.Ytahgjfmdafhedaa
open Go.RowKit Mat
set_option linter.unusedVariables false

theorem TabOk.goal {q n : Nat} {rows : List (List Int)} {x : List Int} (h : TabOk q n rows) (hx : GoodRow q n x) : GoalC q rows x := ⟨h.vtB, by rw [h.cols]; exact hx.1, hx.hasB⟩
section
variable {q : Nat} [NeZero q]
/-- An independent row is no sum of those ahead. -/
theorem Ind.no_span (hq : Pr q) {R : Nat → Nat → Fin q} {m i : Nat} (h : Ind R m) (hi : i < m) : ¬ Span R i (R i) := by
  rintro ⟨c, hc⟩
  have h2 := h (fun j => if j < i then c j else if j = i then -1 else 0) (fun k => by
    rw [sm_cut (i := i + 1) (by omega) (fun j h1 h2 => by
      show (if j < i then c j else if j = i then -1 else 0) * R j k = 0
      rw [if_neg (by omega), if_neg (by omega)]; grind)]
    simp only [sm]
    rw [sm_congr (g := fun j => c j * R j k) (fun j hj => by simp only [if_pos hj]), ← hc k]
    simp only [Nat.lt_irrefl, if_false, if_true]
    grind) i hi
  simp only [Nat.lt_irrefl, if_false, if_true] at h2
  exact one_ne_zero hq.pos.1 (by grind)
omit [NeZero q] in
theorem MsgC.good {rows : List (List Int)} {m : List Int} (h : MsgC q rows m) : GoodRow q rows.length m := by
  have h2 := good_of_hasB h.2.2
  rw [h.2.1] at h2; exact h2
/-- A word is orthogonal to all checks. -/
theorem word_null {rows checks : List (List Int)} {m out : List Int} (hm : MsgC q rows m) (h : EncR q rows m out) (hc : NulC q rows checks) {i : Nat} (hi : i < checks.length) : dotTo q (gr checks i) out (gr rows 0).length = 0 := by
  have ht := vtB_ok hm.1.1
  obtain ⟨a, hra, rfl⟩ := hc.at ht
  rw [dotTo_zero]
  exact dt_span (R := mat q rows) (n := rows.length) ⟨vec q m, (h.word hm).2⟩ (fun k hk => nulls_orth ht.pr hra hi hk)
/-- The factors of a word are its message. -/
theorem word_sol {rows : List (List Int)} {m out : List Int} (hm : MsgC q rows m) (h : EncR q rows m out) : SolR q rows out (some m) :=
  ⟨hm.good, (h.word hm).2, fun i hi hs => absurd hs (hm.1.ind.no_span (vtB_ok hm.1.1).pr hi)⟩
theorem word_goal {rows : List (List Int)} {m out : List Int} (hm : MsgC q rows m) (h : EncR q rows m out) : GoalC q rows out := ⟨hm.1.1, (h.word hm).1.1, (h.word hm).1.hasB⟩
theorem word_back {rows : List (List Int)} {m out back : List Int} {ok : Bool} (hm : MsgC q rows m) (h : EncR q rows m out) (hs : SolB q rows out back ok) : ok = true ∧ back = m := by
  have h1 := word_sol hm h
  cases ok with
  | true =>
    have h2 := SolR.unique (vtB_ok hm.1.1).pr (hs.1 rfl) h1
    exact ⟨rfl, Option.some.inj h2⟩
  | false => exact absurd h1.spans (hs.2 rfl).2
end
end Go.Proofs.Ytahgjfmdafhedaa

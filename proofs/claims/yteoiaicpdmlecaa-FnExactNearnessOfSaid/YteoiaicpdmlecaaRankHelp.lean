/- Ranks of columns: a column more raises the rank just if it is no sum of the others. Plain. -/
import Derived.Test.YteoiaicpdmlecaaDim
import Derived.Test.YteoiaicpdmlecaaRk
namespace Go.Proofs.Yteoiaicpdmlecaa
open Go.RowKit Mat
set_option linter.unusedVariables false

section
variable {p : Nat} [NeZero p]

theorem IsRed.exists (hp : Pr p) {n : Nat} {R : List (List Int)} (h : GoodRows p n R) : ∃ out, IsRed p n R out := by
  have key : ∀ c, c ≤ n → ∃ a at' ld, Inv2 p n R a at' c ld := by
    intro c
    induction c with
    | zero => intro _; exact ⟨R, 0, _, Inv2.start h⟩
    | succ c ih =>
      intro hc
      obtain ⟨a, at', ld, hi⟩ := ih (by omega)
      by_cases hex : ∃ q, at' ≤ q ∧ q < a.length ∧ gi (gr a q) c ≠ 0
      · obtain ⟨q, h1, h2, h3⟩ := hex
        exact ⟨_, _, _, Inv2.pick hp hi (by omega) h1 h2 h3⟩
      · exact ⟨a, at', ld, hi.skip (fun j h1 h2 => by
          apply Classical.byContradiction
          intro h3
          exact hex ⟨j, h1, h2, h3⟩)⟩
  obtain ⟨a, at', ld, hi⟩ := key n (Nat.le_refl _)
  exact ⟨_, hi.done hp⟩

/-- The span of the first m rows has dimension d. -/
def Dim (R : Nat → Nat → Fin p) (m d : Nat) : Prop := ∃ B : Nat → Nat → Fin p, Ind B d ∧ (∀ i, i < d → Span R m (B i)) ∧ ∀ i, i < m → Span B d (R i)
theorem Dim.unique (hp : Pr p) {R : Nat → Nat → Fin p} {m d e : Nat} (h : Dim R m d) (h' : Dim R m e) : d = e := by
  obtain ⟨B, b1, b2, b3⟩ := h
  obtain ⟨C, c1, c2, c3⟩ := h'
  have h1 := dim_le hp (fun i hi => (b2 i hi).mono c3) b1
  have h2 := dim_le hp (fun i hi => (c2 i hi).mono b3) c1
  omega
theorem IsRed.dim {n : Nat} {R out : List (List Int)} (h : IsRed p n R out) : Dim (mat p R) R.length out.length :=
  ⟨mat p out, RR.ind h.inv.rr, fun i hi => (h.inv.span _).2 (Span.row _ hi), fun i hi => (h.inv.span _).1 (Span.row _ hi)⟩
/-- More than d independent ones: none. -/
theorem Dim.le (hp : Pr p) {R T : Nat → Nat → Fin p} {m d k : Nat} (h : Dim R m d) (hs : ∀ i, i < k → Span R m (T i)) (hi : Ind T k) : k ≤ d := by
  obtain ⟨B, b1, b2, b3⟩ := h
  exact dim_le hp (fun i h => (hs i h).mono b3) hi

/-- Some numbers of v, at other places. -/
def pk (P : Nat → Bool) (f : Nat → Nat) (v : Nat → Fin p) : Nat → Fin p := fun k => if P k then v (f k) else 0
theorem pk_sum (P : Nat → Bool) (f : Nat → Nat) {R : Nat → Nat → Fin p} {m : Nat} {c : Nat → Fin p} {v : Nat → Fin p} (h : ∀ k, v k = sm (fun i => c i * R i k) m) (k : Nat) : pk P f v k = sm (fun i => c i * pk P f (R i) k) m := by
  unfold pk
  by_cases hP : P k = true
  · simp only [hP, if_true]; rw [h]
  · simp only [if_neg hP]
    rw [sm_zero (fun i _ => by grind)]
theorem Span.pk {P : Nat → Bool} {f : Nat → Nat} {R : Nat → Nat → Fin p} {m : Nat} {v : Nat → Fin p} (h : Span R m v) : Span (fun i => Go.Proofs.Yteoiaicpdmlecaa.pk P f (R i)) m (Go.Proofs.Yteoiaicpdmlecaa.pk P f v) := by
  obtain ⟨c, hc⟩ := h
  exact ⟨c, fun k => pk_sum P f hc k⟩
theorem Dim.pk {P : Nat → Bool} {f : Nat → Nat} {R : Nat → Nat → Fin p} {m d : Nat} (h : Dim R m d) (hinj : ∀ v, Span R m v → (∀ k, Go.Proofs.Yteoiaicpdmlecaa.pk P f v k = 0) → ∀ k, v k = 0) : Dim (fun i => Go.Proofs.Yteoiaicpdmlecaa.pk P f (R i)) m d := by
  obtain ⟨B, b1, b2, b3⟩ := h
  refine ⟨fun i => Go.Proofs.Yteoiaicpdmlecaa.pk P f (B i), fun c hc => ?_, fun i hi => Go.Proofs.Yteoiaicpdmlecaa.Span.pk (b2 i hi), fun i hi => Go.Proofs.Yteoiaicpdmlecaa.Span.pk (b3 i hi)⟩
  refine b1 c (hinj (fun k => sm (fun i => c i * B i k) d) (Span.sum B c d b2) (fun k => ?_))
  rw [pk_sum P f (R := B) (c := c) (m := d) (fun _ => rfl) k]
  exact hc k

/-- The numbers of the columns in s, 0 at all others. -/
def inS (s n : Nat) (k : Nat) : Bool := decide (k < n ∧ bitN s k = 1)
def mskR (p : Nat) [NeZero p] (s n : Nat) (rows : List (List Int)) : Nat → Nat → Fin p := fun i => pk (inS s n) (fun k => k) (mat p rows i)

theorem sel_at {s : Nat} {row : List Int} {k : Nat} (hb : bitN s k = 1) : ∀ {m : Nat}, k < m → gi (selTo s row m) (wtN s k) = gi row k := by
  intro m
  induction m with
  | zero => intro h; omega
  | succ m ih =>
    intro h
    have hl := selTo_length s row m
    by_cases e : k = m
    · subst e
      rw [selTo, if_pos hb, gi_snoc, if_neg (by omega), if_pos (by omega)]
    · have h1 := ih (by omega)
      have hlt : wtN s k < wtN s m := by
        have : ∀ j, k + 1 ≤ j → wtN s k < wtN s j := by
          intro j
          induction j with
          | zero => intro h; omega
          | succ j ihj =>
            intro hj
            by_cases e2 : k = j
            · subst e2; simp only [wtN]; omega
            · have := ihj (by omega); simp only [wtN]; omega
        exact this m (by omega)
      by_cases c : bitN s m = 1
      · rw [selTo, if_pos c, gi_snoc, if_pos (by omega)]; exact h1
      · rw [selTo, if_neg c]; exact h1
theorem sel_hit (s : Nat) : ∀ (n : Nat) (j : Nat), j < wtN s n → ∃ k, k < n ∧ bitN s k = 1 ∧ wtN s k = j
  | 0, j, h => by simp [wtN] at h
  | n + 1, j, h => by
    have hb : bitN s n = 0 ∨ bitN s n = 1 := by unfold bitN; omega
    simp only [wtN] at h
    by_cases c : j < wtN s n
    · obtain ⟨k, h1, h2, h3⟩ := sel_hit s n j c
      exact ⟨k, by omega, h2, h3⟩
    · exact ⟨n, by omega, by omega, by omega⟩

/-- The rank of the chosen columns is the dimension of the rows with noughts elsewhere. -/
theorem msk_dim {n s : Nat} {rows : List (List Int)} {out : List (List Int)} (hg : GoodRows p n rows) (h : IsRed p (wtN s n) (rows.map (sel s)) out) : Dim (mskR p s n rows) rows.length out.length := by
  have hd := h.dim
  rw [List.length_map] at hd
  have e : ∀ i, i < rows.length → ∀ k, mskR p s n rows i k = pk (inS s n) (wtN s) (mat p (rows.map (sel s)) i) k := fun i hi k => by
    unfold mskR pk
    by_cases c : inS s n k = true
    · simp only [c, if_true]
      simp only [inS, decide_eq_true_eq] at c
      show vec p (gr rows i) k = vec p (gr (rows.map (sel s)) i) (wtN s k)
      unfold vec
      rw [gr_map hi]
      show _ = phi p (gi (selTo s (gr rows i) (gr rows i).length) (wtN s k))
      rw [sel_at c.2 (by rw [(hg i hi).1]; exact c.1)]
    · simp only [if_neg c]
  have hd2 := hd.pk (P := inS s n) (f := wtN s) (fun v hv h0 j => by
    obtain ⟨c, hc⟩ := hv
    by_cases hj : j < wtN s n
    · obtain ⟨k, h1, h2, h3⟩ := sel_hit s n j hj
      have := h0 k
      unfold pk at this
      have hin : inS s n k = true := by simp [inS, h1, h2]
      rw [hin, h3] at this
      simpa using this
    · rw [hc j]
      refine sm_zero (fun i hi => ?_)
      have : mat p (rows.map (sel s)) i j = 0 := vec_ge (by rw [(selRows_good s hg i (by rw [List.length_map]; exact hi)).1]; omega)
      rw [this]; grind)
  obtain ⟨B, b1, b2, b3⟩ := hd2
  exact ⟨B, b1, fun i hi => (b2 i hi).mono (fun t ht => (Span.row (mskR p s n rows) ht).congr (fun k => (e t ht k).symm)), fun i hi => (b3 i hi).congr (fun k => e i hi k)⟩

/-- The column i. -/
def colN (rows : List (List Int)) (i : Nat) : List Int := tab rows.length (fun r => gi (gr rows r) i)
/-- The columns in s of the first k. -/
def colsTo (rows : List (List Int)) (s : Nat) : Nat → List (List Int)
  | 0 => []
  | k + 1 => if bitN s k = 1 then colsTo rows s k ++ [colN rows k] else colsTo rows s k
theorem colsTo_length (rows : List (List Int)) (s k : Nat) : (colsTo rows s k).length = wtN s k := by
  induction k with
  | zero => rfl
  | succ k ih =>
    have hb : bitN s k = 0 ∨ bitN s k = 1 := by unfold bitN; omega
    rcases hb with h | h
    · simp [colsTo, wtN, h, ih]
    · simp [colsTo, wtN, h, ih]
theorem gr_app {R : List (List Int)} {x : List Int} {i : Nat} : i < R.length → gr (R ++ [x]) i = gr R i := fun h => gr_snoc_lt h
theorem cols_at {rows : List (List Int)} {s k : Nat} (hb : bitN s k = 1) : ∀ {m : Nat}, k < m → gr (colsTo rows s m) (wtN s k) = colN rows k := by
  intro m
  induction m with
  | zero => intro h; omega
  | succ m ih =>
    intro h
    have hl := colsTo_length rows s m
    by_cases e : k = m
    · subst e
      rw [colsTo, if_pos hb, gr_snoc_eq (by omega)]
    · have h1 := ih (by omega)
      have hlt : wtN s k < wtN s m := by
        have : ∀ j, k + 1 ≤ j → wtN s k < wtN s j := by
          intro j
          induction j with
          | zero => intro h; omega
          | succ j ihj =>
            intro hj
            by_cases e2 : k = j
            · subst e2; simp only [wtN]; omega
            · have := ihj (by omega); simp only [wtN]; omega
        exact this m (by omega)
      by_cases c : bitN s m = 1
      · rw [colsTo, if_pos c, gr_snoc_lt (by omega)]; exact h1
      · rw [colsTo, if_neg c]; exact h1
theorem colN_good {q : Int} {n : Nat} {rows : List (List Int)} (hg : GoodRows q n rows) {i : Nat} (hi : i < n) : GoodRow q rows.length (colN rows i) :=
  ⟨tab_length _ _, fun r hr => by unfold colN; rw [tab_get hr]; exact (hg r hr).2 i hi⟩
theorem cols_good {q : Int} {n : Nat} {rows : List (List Int)} {s : Nat} (hg : GoodRows q n rows) : ∀ k, k ≤ n → GoodRows q rows.length (colsTo rows s k)
  | 0, _ => fun i hi => by simp [colsTo] at hi
  | k + 1, hk => by
    unfold colsTo
    split
    · intro i hi
      by_cases c : i < (colsTo rows s k).length
      · rw [gr_snoc_lt c]; exact cols_good hg k (by omega) i c
      · rw [List.length_append, List.length_singleton] at hi
        rw [gr_snoc_eq (by omega)]; exact colN_good hg (by omega)
    · exact cols_good hg k (by omega)

/-- The column i is a sum of those in s. -/
def HelpC (p : Nat) [NeZero p] (rows : List (List Int)) (n s i : Nat) : Prop := Span (mat p (colsTo rows s n)) (wtN s n) (vec p (colN rows i))

theorem vec_colN {rows : List (List Int)} {i r : Nat} (hr : r < rows.length) : vec p (colN rows i) r = mat p rows r i := by
  unfold vec colN
  rw [tab_get hr]; rfl

theorem help_rank (hp : Pr p) {n s i : Nat} {rows o1 o2 : List (List Int)} (hg : GoodRows p n rows) (hi : i < n) (hb : bitN s i = 0) {s' : Nat} (hs' : ∀ k, k < n → bitN s' k = if k = i then 1 else bitN s k)
    (h1 : IsRed p (wtN s n) (rows.map (sel s)) o1) (h2 : IsRed p (wtN s' n) (rows.map (sel s')) o2) : HelpC p rows n s i ↔ o1.length = o2.length := by
  have d1 := msk_dim hg h1
  have d2 := msk_dim hg h2
  have hin : ∀ k, inS s' n k = (inS s n k || decide (k = i)) := fun k => by
    unfold inS
    by_cases hk : k < n
    · rw [hs' k hk]
      by_cases e : k = i
      · subst e; simp [hk]
      · simp [hk, e]
    · have : k ≠ i := by omega
      simp [hk, this]
  have hres : ∀ r k, mskR p s n rows r k = pk (inS s n) (fun k => k) (mskR p s' n rows r) k := fun r k => by
    unfold mskR pk
    by_cases c : inS s n k = true
    · rw [hin k]; simp [c]
    · simp [c]
  constructor
  · -- a sum of the others: nothing is lost without it
    rintro ⟨c, hc⟩
    have d3 := d2.pk (P := inS s n) (f := fun k => k) (fun v hv h0 k => by
      obtain ⟨y, hy⟩ := hv
      by_cases hk : k = i
      · subst hk
        -- v at i is the sum of y_r R_r i
        have e1 : ∀ r, r < rows.length → mskR p s' n rows r k = sm (fun j => c j * mat p (colsTo rows s n) j r) (wtN s n) := fun r hr => by
          rw [← hc r, vec_colN hr]
          unfold mskR pk
          rw [hin k]; simp
        rw [hy k, sm_congr (g := fun r => sm (fun j => c j * (y r * mat p (colsTo rows s n) j r)) (wtN s n)) (fun r hr => by
          rw [e1 r hr, ← sm_mul]; exact sm_congr (fun j _ => by grind)), sm_comm]
        refine sm_zero (fun j hj => ?_)
        rw [sm_mul]
        obtain ⟨t, ht, hbt, hwt⟩ := sel_hit s n j hj
        have e2 : sm (fun r => y r * mat p (colsTo rows s n) j r) rows.length = v t := by
          rw [hy t]
          refine sm_congr (fun r hr => ?_)
          have : mat p (colsTo rows s n) j r = mskR p s' n rows r t := by
            show vec p (gr (colsTo rows s n) j) r = _
            rw [← hwt, cols_at hbt ht, vec_colN hr]
            unfold mskR pk
            rw [hin t]; simp [inS, ht, hbt]
          rw [this]
        have e3 := h0 t
        unfold pk at e3
        have : inS s n t = true := by simp [inS, ht, hbt]
        rw [this] at e3
        simp only [if_true] at e3
        rw [e2, e3]; grind
      · have := h0 k
        unfold pk at this
        by_cases c2 : inS s n k = true
        · rw [c2] at this; simpa using this
        · rw [hy k]
          refine sm_zero (fun r _ => ?_)
          have : mskR p s' n rows r k = 0 := by unfold mskR pk; rw [hin k]; simp [c2, hk]
          rw [this]; grind)
    have d4 : Dim (mskR p s n rows) rows.length o2.length := by
      obtain ⟨B, b1, b2, b3⟩ := d3
      exact ⟨B, b1, fun j hj => (b2 j hj).mono (fun t ht => (Span.row (mskR p s n rows) ht).congr (fun k => (hres t k).symm)), fun j hj => (b3 j hj).congr (fun k => hres j k)⟩
    exact d1.unique hp d4
  · -- no sum of the others: it raises the rank
    intro hlen
    apply Classical.byContradiction
    intro hno
    have hcg := cols_good (s := s) hg n (Nat.le_refl _)
    have hig := colN_good hg hi
    have hag := augAll_good hcg hig
    obtain ⟨a, ha⟩ := IsRed.exists hp hag
    have hsol := spec_sol hp hcg hig ha
    have hcl := colsTo_length rows s n
    by_cases hld : 0 ≤ ldIx a (colsTo rows s n).length a.length
    · have hbd := ldIx_bounds a (colsTo rows s n).length a.length
      have hl := hbd.2.2 hld
      obtain ⟨t, ht⟩ : ∃ t, t = (ldIx a (colsTo rows s n).length a.length).toNat := ⟨_, rfl⟩
      have hta : t < a.length := by omega
      rw [← ht] at hl
      -- a sum of rows with noughts in s and not in i
      obtain ⟨y, hy⟩ := (ha.inv.span _).2 (Span.row (mat p a) hta)
      rw [augAll_length, hig.1] at hy
      have haug : ∀ r, r < rows.length → ∀ k, k < (colsTo rows s n).length + 1 → mat p (augAll (colsTo rows s n) (colN rows i)) r k = if k < (colsTo rows s n).length then mat p (colsTo rows s n) k r else mat p rows r i := fun r hr k hk => by
        show vec p (gr (augAll (colsTo rows s n) (colN rows i)) r) k = _
        rw [augAll_get _ _ (by rw [hig.1]; exact hr)]
        unfold vec augRow
        rw [tab_get hk]
        split
        · rfl
        · show phi p (gi (colN rows i) r) = phi p (gi (gr rows r) i)
          unfold colN
          rw [tab_get hr]
      have hz : ∀ k, k < n → bitN s k = 1 → sm (fun r => y r * mat p rows r k) rows.length = 0 := fun k hk hbk => by
        have hwk : wtN s k < (colsTo rows s n).length := by
          rw [hcl]
          have : ∀ j, k + 1 ≤ j → wtN s k < wtN s j := by
            intro j
            induction j with
            | zero => intro h; omega
            | succ j ihj =>
              intro hj
              by_cases e2 : k = j
              · subst e2; simp only [wtN]; omega
              · have := ihj (by omega); simp only [wtN]; omega
          exact this n (by omega)
        have h3 := hy (wtN s k)
        rw [ha.inv.rr.front t (wtN s k) hta (by rw [hl]; exact hwk)] at h3
        rw [h3]
        refine sm_congr (fun r hr => ?_)
        rw [haug r hr _ (by omega), if_pos hwk]
        show _ = y r * vec p (gr (colsTo rows s n) (wtN s k)) r
        rw [cols_at hbk hk, vec_colN hr]
      have hone : sm (fun r => y r * mat p rows r i) rows.length = 1 := by
        have h3 := hy (colsTo rows s n).length
        have h4 := ha.inv.rr.unit t t hta hta
        rw [if_pos rfl, hl] at h4
        rw [h4] at h3
        rw [h3]
        refine sm_congr (fun r hr => ?_)
        rw [haug r hr _ (by omega), if_neg (by omega)]
      -- so it is independent of what is told in s
      obtain ⟨B, b1, b2, b3⟩ := d1
      have hch : ∀ j, ∃ z : Nat → Fin p, j < o1.length → ∀ k, B j k = sm (fun r => z r * mskR p s n rows r k) rows.length := fun j => by
        by_cases hj : j < o1.length
        · obtain ⟨z, hz⟩ := b2 j hj; exact ⟨z, fun _ => hz⟩
        · exact ⟨fun _ => 0, fun h => absurd h hj⟩
      obtain ⟨Z, hZ⟩ := Classical.axiomOfChoice hch
      have hbig := d2.le hp (k := o1.length + 1) (T := fun j k => if j < o1.length then sm (fun r => Z j r * mskR p s' n rows r k) rows.length else sm (fun r => y r * mskR p s' n rows r k) rows.length) (fun j hj => by
        by_cases c : j < o1.length
        · exact ⟨Z j, fun k => by simp only [if_pos c]⟩
        · exact ⟨y, fun k => by simp only [if_neg c]⟩) (fun c hc => by
        simp only [sm] at hc
        have hc' : ∀ k, sm (fun j => c j * sm (fun r => Z j r * mskR p s' n rows r k) rows.length) o1.length + c o1.length * sm (fun r => y r * mskR p s' n rows r k) rows.length = 0 := fun k => by
          have := hc k
          rw [sm_congr (g := fun j => c j * sm (fun r => Z j r * mskR p s' n rows r k) rows.length) (fun j hj => by simp only [if_pos hj])] at this
          simpa using this
        have hcj : ∀ j, j < o1.length → c j = 0 := by
          refine b1 c (fun k => ?_)
          by_cases hk : inS s n k = true
          · have h3 := hc' k
            have hkk : k < n ∧ bitN s k = 1 := by simpa [inS] using hk
            have e1 : sm (fun r => y r * mskR p s' n rows r k) rows.length = 0 := by
              rw [← hz k hkk.1 hkk.2]
              refine sm_congr (fun r _ => ?_)
              unfold mskR pk
              rw [hin k]; simp [hk]
            rw [e1] at h3
            have e2 : sm (fun j => c j * B j k) o1.length = sm (fun j => c j * sm (fun r => Z j r * mskR p s' n rows r k) rows.length) o1.length := by
              refine sm_congr (fun j hj => ?_)
              rw [hZ j hj k]
              congr 1
              refine sm_congr (fun r _ => ?_)
              unfold mskR pk
              rw [hin k]; simp [hk]
            rw [e2]; grind
          · refine sm_zero (fun j hj => ?_)
            rw [hZ j hj k, sm_zero (fun r _ => by
              have : mskR p s n rows r k = 0 := by unfold mskR pk; simp [hk]
              rw [this]; grind)]; grind
        intro j hj
        by_cases cj : j < o1.length
        · exact hcj j cj
        · obtain rfl : j = o1.length := by omega
          have h3 := hc' i
          rw [sm_zero (fun t ht => by rw [hcj t ht]; grind)] at h3
          have e1 : sm (fun r => y r * mskR p s' n rows r i) rows.length = 1 := by
            rw [← hone]
            refine sm_congr (fun r _ => ?_)
            unfold mskR pk
            rw [hin i]; simp
          rw [e1] at h3
          grind)
      omega
    · rw [if_neg hld] at hsol
      refine hno ?_
      have := hsol.spans
      rw [hcl] at this
      exact this
end
end Go.Proofs.Yteoiaicpdmlecaa

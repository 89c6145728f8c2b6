/- The texts of codes, in plain Lean. What CodeText returns. Reading the texts of codes, in plain Lean. ParseCode of both, in plain Lean: what each finds is what ParseR says. -/
import Derived.Test.YtcdbeepphdfipaaGreatDoorBase
import Derived.Lib.Join
import Derived.Lib.ItoaNum
import Derived.Test.YtcdbeepphdfipaaGreatDoorKnow
namespace Go.Proofs.YtcdbeepphdfipaaGreatDoor
set_option linter.unusedVariables false

/-- A number's digit. -/
def digB (x : Int) : UInt8 := UInt8.ofNat (48 + x.toNat)
/-- A row's digits. -/
def rowT (r : List Int) : List UInt8 := r.map digB
/-- Rows, with a slash between two of them: of the first k. -/
def rowsTo (rows : List (List Int)) : Nat → List UInt8
  | 0 => []
  | k + 1 => rowsTo rows k ++ (if k = 0 then [] else [47]) ++ rowT (gr rows k)
/-- A code's text. -/
def codeT (p : Int) (rows : List (List Int)) : List UInt8 := digB p :: 58 :: rowsTo rows rows.length
/-- A text as the model has it. -/
def bs (l : List UInt8) : ByteArray := ⟨l.toArray⟩
theorem bs_append (a b : List UInt8) : bs a ++ bs b = bs (a ++ b) := by
  apply ByteArray.ext
  simp [bs, ByteArray.data_append]
theorem bs_size (a : List UInt8) : (bs a).size = a.length := by simp [bs, ByteArray.size]
theorem bs_list (a : List UInt8) : (bs a).data.toList = a := by simp [bs]

theorem dec_small : ∀ n : Nat, n < 10 → Lib.decDigits n = [digB n] := by
  intro n hn
  rw [Lib.decDigits, dif_pos hn]
  simp [digB]

theorem rowsTo_succ (r : List Int) (rows : List (List Int)) : ∀ k, k ≤ rows.length → rowsTo (r :: rows) (k + 1) = rowT r ++ Lib.joinTail [47] ((rows.map rowT).take k)
  | 0, _ => by simp [rowsTo, Lib.joinTail, gr]
  | k + 1, h => by
    have e : (rows.map rowT)[k]? = some (rowT (gr (r :: rows) (k + 1))) := by
      rw [List.getElem?_map, List.getElem?_eq_getElem (by omega)]
      simp [gr, List.getElem?_eq_getElem (show k < rows.length by omega)]
    rw [Lib.joinTail_take_succ _ _ _ _ e, rowsTo, rowsTo_succ r rows k (by omega), if_neg (by omega)]
    simp [List.append_assoc]
theorem rowsTo_join (rows : List (List Int)) : Lib.join (rows.map rowT) [47] = rowsTo rows rows.length := by
  cases rows with
  | nil => rfl
  | cons r rows => rw [List.map_cons, Lib.join_cons, List.length_cons, rowsTo_succ _ _ _ (Nat.le_refl _), ← List.length_map (f := rowT), List.take_length]
theorem rowT_take {r : List Int} {k : Nat} (h : k < r.length) : rowT (r.take (k + 1)) = rowT (r.take k) ++ [digB (gi r k)] := by
  show List.map digB (r.take (k + 1)) = List.map digB (r.take k) ++ [digB (gi r k)]
  rw [List.take_add_one, List.map_append, List.getElem?_eq_getElem h, gi_lt h]
  rfl
theorem rowT_all (r : List Int) : rowT (r.take r.length) = rowT r := by rw [List.take_length]
end Go.Proofs.YtcdbeepphdfipaaGreatDoor

namespace Go.Proofs.YtcdbeepphdfipaaGreatDoor
set_option linter.unusedVariables false

/-- What CodeText returns. -/
def TxtR (p : Int) (rows : List (List Int)) (s : ByteArray) : Prop := (ValidC p rows → s = bs (codeT p rows)) ∧ (¬ ValidC p rows → s = bs [])
theorem TxtR.unique {p : Int} {rows : List (List Int)} {a b : ByteArray} (h : TxtR p rows a) (h' : TxtR p rows b) : a = b := by
  by_cases c : ValidC p rows
  · rw [h.1 c, h'.1 c]
  · rw [h.2 c, h'.2 c]

theorem ValidC.digs {p : Int} {rows : List (List Int)} (h : ValidC p rows) : (0 ≤ p ∧ p ≤ 9) ∧ (∀ i k, i < rows.length → k < (gr rows i).length → 0 ≤ gi (gr rows i) k ∧ gi (gr rows i) k ≤ 9) ∧ 1 ≤ rows.length ∧ rows.length ≤ 6 ∧ ∀ i, i < rows.length → (gr rows i).length ≤ 7 := by
  obtain ⟨h1, h2, h3, h4⟩ := vtB_iff.1 h.1
  refine ⟨by omega, fun i k hi hk => ?_, h2.1, h2.2, fun i hi => by rw [(h4 i hi).1]; exact h3.2⟩
  have := (h4 i hi).2 k hk
  omega

theorem rowsTo_le {rows : List (List Int)} (h7 : ∀ i, i < rows.length → (gr rows i).length ≤ 7) : ∀ k, k ≤ rows.length → (rowsTo rows k).length ≤ 8 * k
  | 0, _ => by simp [rowsTo]
  | k + 1, h => by
    have h1 := rowsTo_le h7 k (by omega)
    have h2 := h7 k (by omega)
    have h3 : (if k = 0 then ([] : List UInt8) else [47]).length ≤ 1 := by split <;> simp
    rw [rowsTo, List.length_append, List.length_append, rowT, List.length_map]
    omega
end Go.Proofs.YtcdbeepphdfipaaGreatDoor

namespace Go.Proofs.YtcdbeepphdfipaaGreatDoor
set_option linter.unusedVariables false

/-- The pieces of a text between the bytes c. -/
def splitB (c : UInt8) : List UInt8 → List (List UInt8)
  | [] => [[]]
  | x :: l => if x = c then [] :: splitB c l else match splitB c l with
    | [] => [[x]]
    | h :: t => (x :: h) :: t

theorem splitB_none {c : UInt8} : ∀ {a : List UInt8}, c ∉ a → splitB c a = [a]
  | [], _ => rfl
  | x :: a, h => by
    have hx : x ≠ c := fun e => h (by rw [e]; exact List.mem_cons_self ..)
    have ha : c ∉ a := fun e => h (List.mem_cons_of_mem _ e)
    rw [splitB, if_neg hx, splitB_none ha]
theorem splitB_app {c : UInt8} : ∀ {a : List UInt8} (l : List UInt8), c ∉ a → splitB c (a ++ c :: l) = a :: splitB c l
  | [], l, _ => by rw [List.nil_append, splitB, if_pos rfl]
  | x :: a, l, h => by
    have hx : x ≠ c := fun e => h (by rw [e]; exact List.mem_cons_self ..)
    have ha : c ∉ a := fun e => h (List.mem_cons_of_mem _ e)
    rw [List.cons_append, splitB, if_neg hx, splitB_app l ha]

theorem digB_ne {x : Int} (h0 : 0 ≤ x) (h9 : x ≤ 9) : digB x ≠ 47 ∧ digB x ≠ 58 := by
  have h : x = 0 ∨ x = 1 ∨ x = 2 ∨ x = 3 ∨ x = 4 ∨ x = 5 ∨ x = 6 ∨ x = 7 ∨ x = 8 ∨ x = 9 := by omega
  rcases h with rfl | rfl | rfl | rfl | rfl | rfl | rfl | rfl | rfl | rfl <;> decide
theorem digB_to {x : Int} (h0 : 0 ≤ x) (h9 : x ≤ 9) : ((digB x).toNat : Int) - 48 = x := by
  have h : x = 0 ∨ x = 1 ∨ x = 2 ∨ x = 3 ∨ x = 4 ∨ x = 5 ∨ x = 6 ∨ x = 7 ∨ x = 8 ∨ x = 9 := by omega
  rcases h with rfl | rfl | rfl | rfl | rfl | rfl | rfl | rfl | rfl | rfl <;> decide
theorem digB_inj {x y : Int} (h0 : 0 ≤ x) (h9 : x ≤ 9) (k0 : 0 ≤ y) (k9 : y ≤ 9) (h : digB x = digB y) : x = y := by
  rw [← digB_to h0 h9, ← digB_to k0 k9, h]

/-- All numbers of a row have a digit. -/
def Dg (r : List Int) : Prop := ∀ x ∈ r, 0 ≤ x ∧ x ≤ 9
theorem Dg.of {r : List Int} (h : ∀ k, k < r.length → 0 ≤ gi r k ∧ gi r k ≤ 9) : Dg r := by
  intro x hx
  obtain ⟨i, hi, rfl⟩ := List.getElem_of_mem hx
  have := h i hi
  rw [gi_lt hi] at this
  exact this
theorem Dg.ne {r : List Int} (h : Dg r) : (47 : UInt8) ∉ rowT r := by
  intro hm
  obtain ⟨x, hx, e⟩ := List.mem_map.1 hm
  exact (digB_ne (h x hx).1 (h x hx).2).1 e
/-- The numbers of a text's bytes. -/
def unT (l : List UInt8) : List Int := l.map fun b => (b.toNat : Int) - 48
theorem unT_rowT : ∀ {r : List Int}, Dg r → unT (rowT r) = r
  | [], _ => rfl
  | x :: r, h => by
    have h1 := digB_to (h x (List.mem_cons_self ..)).1 (h x (List.mem_cons_self ..)).2
    have h2 := unT_rowT (r := r) (fun y hy => h y (List.mem_cons_of_mem _ hy))
    unfold unT rowT at h2 ⊢
    rw [List.map_cons, List.map_cons, h1, h2]
theorem rowT_inj {a b : List Int} (h : Dg a) (k : Dg b) (e : rowT a = rowT b) : a = b := by rw [← unT_rowT h, ← unT_rowT k, e]

theorem split_tail : ∀ (r : List Int) (rows : List (List Int)), Dg r → (∀ r ∈ rows, Dg r) → splitB 47 (rowT r ++ Lib.joinTail [47] (rows.map rowT)) = rowT r :: rows.map rowT
  | r, [], h, _ => by
    rw [List.map_nil, show Lib.joinTail [47] [] = [] from rfl, List.append_nil, splitB_none h.ne]
  | r, s :: rows, h, hs => by
    have e : Lib.joinTail [47] ((s :: rows).map rowT) = 47 :: (rowT s ++ Lib.joinTail [47] (rows.map rowT)) := by
      simp [Lib.joinTail]
    rw [e, splitB_app _ h.ne, split_tail s rows (hs s (List.mem_cons_self ..)) (fun r hr => hs r (List.mem_cons_of_mem _ hr)), List.map_cons]
/-- The rows of a text are its pieces. -/
theorem split_rows {rows : List (List Int)} (h : ∀ r ∈ rows, Dg r) (h1 : 1 ≤ rows.length) : splitB 47 (rowsTo rows rows.length) = rows.map rowT := by
  cases rows with
  | nil => simp at h1
  | cons r rows => rw [← rowsTo_join, List.map_cons, Lib.join_cons, split_tail r rows (h r (List.mem_cons_self ..)) (fun r hr => h r (List.mem_cons_of_mem _ hr))]

theorem map_unT : ∀ {rows : List (List Int)}, (∀ r ∈ rows, Dg r) → (rows.map rowT).map unT = rows
  | [], _ => rfl
  | r :: rows, h => by
    rw [List.map_cons, List.map_cons, unT_rowT (h r (List.mem_cons_self ..)), map_unT (fun r hr => h r (List.mem_cons_of_mem _ hr))]

theorem ValidC.dg {p : Int} {rows : List (List Int)} (h : ValidC p rows) : (0 ≤ p ∧ p ≤ 9) ∧ 1 ≤ rows.length ∧ ∀ r ∈ rows, Dg r := by
  obtain ⟨h1, h2, h3, h4⟩ := vtB_iff.1 h.1
  refine ⟨by omega, h2.1, fun r hr => ?_⟩
  obtain ⟨i, hi, rfl⟩ := List.getElem_of_mem hr
  rw [← gr_lt hi]
  refine Dg.of (fun k hk => ?_)
  have := (h4 i hi).2 k hk
  omega

theorem codeT_inj {p q : Int} {R S : List (List Int)} (h : ValidC p R) (k : ValidC q S) (e : codeT p R = codeT q S) : p = q ∧ R = S := by
  obtain ⟨hp, hr, hR⟩ := h.dg
  obtain ⟨kp, kr, kR⟩ := k.dg
  unfold codeT at e
  simp only [List.cons.injEq] at e
  refine ⟨digB_inj hp.1 hp.2 kp.1 kp.2 e.1, ?_⟩
  rw [← map_unT hR, ← map_unT kR, ← split_rows hR hr, ← split_rows kR kr, e.2.2]

/-- What ParseCode returns for a text. -/
def ParseR (s : List UInt8) (p : Int) (rows : List (List Int)) (ok : Bool) : Prop :=
  (ok = true → ValidC p rows ∧ s = codeT p rows) ∧ (ok = false → p = 0 ∧ rows = [] ∧ ∀ q R, ValidC q R → s ≠ codeT q R)
theorem ParseR.unique {s : List UInt8} {p q : Int} {R S : List (List Int)} {a b : Bool} (h : ParseR s p R a) (k : ParseR s q S b) : p = q ∧ R = S ∧ a = b := by
  cases a with
  | true =>
    obtain ⟨h1, h2⟩ := h.1 rfl
    cases b with
    | true =>
      obtain ⟨k1, k2⟩ := k.1 rfl
      obtain ⟨e1, e2⟩ := codeT_inj h1 k1 (h2.symm.trans k2)
      exact ⟨e1, e2, rfl⟩
    | false => exact absurd h2 ((k.2 rfl).2.2 _ _ h1)
  | false =>
    obtain ⟨h1, h2, h3⟩ := h.2 rfl
    cases b with
    | true => exact absurd (k.1 rfl).2 (h3 _ _ (k.1 rfl).1)
    | false =>
      obtain ⟨k1, k2, _⟩ := k.2 rfl
      exact ⟨h1.trans k1.symm, h2.trans k2.symm, rfl⟩
end Go.Proofs.YtcdbeepphdfipaaGreatDoor

namespace Go.Proofs.YtcdbeepphdfipaaGreatDoor
set_option linter.unusedVariables false

theorem codeT_eq (p : Int) (rows : List (List Int)) : codeT p rows = [digB p] ++ 58 :: rowsTo rows rows.length := rfl
theorem digB_58 {p : Int} (h0 : 0 ≤ p) (h9 : p ≤ 9) : (58 : UInt8) ∉ [digB p] := by
  intro h
  rw [List.mem_singleton] at h
  exact (digB_ne h0 h9).2 h.symm

/-- The first byte c of a text is told by what lies before it. -/
theorem cut_unique {c : UInt8} : ∀ {a b x y : List UInt8}, c ∉ a → c ∉ b → a ++ c :: x = b ++ c :: y → a = b ∧ x = y
  | [], [], x, y, _, _, h => ⟨rfl, by simpa using h⟩
  | [], z :: b, x, y, _, hb, h => by
    simp at h
    exact absurd (by rw [h.1]; exact List.mem_cons_self ..) hb
  | z :: a, [], x, y, ha, _, h => by
    simp at h
    exact absurd (by rw [h.1]; exact List.mem_cons_self ..) ha
  | z :: a, u :: b, x, y, ha, hb, h => by
    simp only [List.cons_append, List.cons.injEq] at h
    obtain ⟨e1, e2⟩ := cut_unique (fun e => ha (List.mem_cons_of_mem _ e)) (fun e => hb (List.mem_cons_of_mem _ e)) h.2
    exact ⟨by rw [h.1, e1], e2⟩

/-- The program, where it has cut the text and read a number: the text of what it read decides. -/
theorem implParse_ok {s a r : List UInt8} {p : Int} {t : ByteArray} (hs : s = a ++ 58 :: r) (ht : TxtR p ((splitB 47 r).map unT) t) (e : t = bs s) : ParseR s p ((splitB 47 r).map unT) true := by
  refine ⟨fun _ => ?_, fun h => by cases h⟩
  by_cases c : ValidC p ((splitB 47 r).map unT)
  · refine ⟨c, ?_⟩
    have h1 := ht.1 c
    have h2 := congrArg (fun b => b.data.toList) (e.symm.trans h1)
    simpa [bs_list] using h2
  · have h1 := ht.2 c
    have h2 := congrArg (fun b => b.data.toList) (e.symm.trans h1)
    simp only [bs_list] at h2
    rw [hs] at h2
    simp at h2
/-- .. and where the number is what a digit says. -/
theorem implParse_no {s a r : List UInt8} {p : Int} {t : ByteArray} (hs : s = a ++ 58 :: r) (ha : (58 : UInt8) ∉ a) (hp : ∀ q : Int, 0 ≤ q → q ≤ 9 → a = [digB q] → p = q) (ht : TxtR p ((splitB 47 r).map unT) t) (e : t ≠ bs s) : ParseR s 0 [] false := by
  refine ⟨(fun h => by cases h), fun _ => ⟨rfl, rfl, fun q R hv h => ?_⟩⟩
  obtain ⟨hq, hr, hR⟩ := hv.dg
  rw [hs, codeT_eq] at h
  obtain ⟨e1, e2⟩ := cut_unique ha (digB_58 hq.1 hq.2) h
  have ep := hp q hq.1 hq.2 e1
  have eR : (splitB 47 r).map unT = R := by rw [e2, split_rows hR hr, map_unT hR]
  rw [ep, eR] at ht
  refine e ?_
  rw [ht.1 hv, hs, codeT_eq, e1, e2]
theorem implParse_err {s a r : List UInt8} (hs : s = a ++ 58 :: r) (ha : (58 : UInt8) ∉ a) (hp : ∀ q : Int, 0 ≤ q → q ≤ 9 → a ≠ [digB q]) : ParseR s 0 [] false := by
  refine ⟨(fun h => by cases h), fun _ => ⟨rfl, rfl, fun q R hv h => ?_⟩⟩
  obtain ⟨hq, hr, hR⟩ := hv.dg
  rw [hs, codeT_eq] at h
  exact hp q hq.1 hq.2 (cut_unique ha (digB_58 hq.1 hq.2) h).1
theorem parse_none {s : List UInt8} (hs : (58 : UInt8) ∉ s) : ParseR s 0 [] false := by
  refine ⟨(fun h => by cases h), fun _ => ⟨rfl, rfl, fun q R hv h => hs ?_⟩⟩
  rw [h, codeT]
  exact List.mem_cons_of_mem _ (List.mem_cons_self ..)

/-- Pieces, put together again. -/
def joinB (c : UInt8) : List (List UInt8) → List UInt8
  | [] => []
  | [x] => x
  | x :: y :: r => x ++ c :: joinB c (y :: r)
theorem splitB_ne (c : UInt8) : ∀ l, splitB c l ≠ []
  | [] => by simp [splitB]
  | x :: l => by
    rw [splitB]
    split
    · simp
    · split <;> simp
theorem join_split (c : UInt8) : ∀ l, joinB c (splitB c l) = l
  | [] => rfl
  | x :: l => by
    have ih := join_split c l
    have hn := splitB_ne c l
    rw [splitB]
    by_cases hx : x = c
    · rw [if_pos hx]
      cases h : splitB c l with
      | nil => exact absurd h hn
      | cons y r =>
        rw [h] at ih
        rw [joinB, ih, List.nil_append, hx]
    · rw [if_neg hx]
      cases h : splitB c l with
      | nil => exact absurd h hn
      | cons y r =>
        rw [h] at ih
        cases r with
        | nil => simp only [joinB] at ih ⊢; rw [ih]
        | cons z r => simp only [joinB, List.cons_append] at ih ⊢; rw [ih]
theorem joinB_map : ∀ (rows : List (List Int)), joinB 47 (rows.map rowT) = Lib.join (rows.map rowT) [47]
  | [] => rfl
  | [r] => by simp [joinB, Lib.join_one]
  | r :: s :: rows => by
    have ih := joinB_map (s :: rows)
    rw [List.map_cons, List.map_cons, joinB, ← List.map_cons, ih, List.map_cons, Lib.join_cons, Lib.join_cons]
    simp [Lib.joinTail]

/-- The reference's number of a byte. -/
def sDig (b : UInt8) : Int := if 48 ≤ b.toNat ∧ b.toNat ≤ 57 then (b.toNat : Int) - 48 else if b.toNat = 46 then -1 else -2
def sUn (l : List UInt8) : List Int := l.map sDig
theorem sDig_digB {x : Int} (h0 : 0 ≤ x) (h9 : x ≤ 9) : sDig (digB x) = x := by
  have h : x = 0 ∨ x = 1 ∨ x = 2 ∨ x = 3 ∨ x = 4 ∨ x = 5 ∨ x = 6 ∨ x = 7 ∨ x = 8 ∨ x = 9 := by omega
  rcases h with rfl | rfl | rfl | rfl | rfl | rfl | rfl | rfl | rfl | rfl <;> decide
theorem sDig_back {b : UInt8} (h : 0 ≤ sDig b) : digB (sDig b) = b := by
  unfold sDig at h ⊢
  by_cases c : 48 ≤ b.toNat ∧ b.toNat ≤ 57
  · rw [if_pos c, digB]
    apply UInt8.toNat_inj.1
    rw [UInt8.toNat_ofNat']
    omega
  · rw [if_neg c] at h
    split at h <;> omega
theorem sUn_rowT : ∀ {r : List Int}, Dg r → sUn (rowT r) = r
  | [], _ => rfl
  | x :: r, h => by
    have h1 := sDig_digB (h x (List.mem_cons_self ..)).1 (h x (List.mem_cons_self ..)).2
    have h2 := sUn_rowT (r := r) (fun y hy => h y (List.mem_cons_of_mem _ hy))
    unfold sUn rowT at h2 ⊢
    rw [List.map_cons, List.map_cons, h1, h2]
theorem sUn_back : ∀ {l : List UInt8}, Dg (sUn l) → rowT (sUn l) = l
  | [], _ => rfl
  | b :: l, h => by
    have h1 := sDig_back (h (sDig b) (List.mem_cons_self ..)).1
    have h2 := sUn_back (l := l) (fun y hy => h y (List.mem_cons_of_mem _ hy))
    unfold sUn rowT at h2 ⊢
    rw [List.map_cons, List.map_cons, h1, h2]
theorem map_back : ∀ {ls : List (List UInt8)}, (∀ r ∈ ls.map sUn, Dg r) → (ls.map sUn).map rowT = ls
  | [], _ => rfl
  | l :: ls, h => by
    rw [List.map_cons, List.map_cons, sUn_back (h (sUn l) (List.mem_cons_self ..)), map_back (fun r hr => h r (List.mem_cons_of_mem _ hr))]
theorem map_sUn : ∀ {rows : List (List Int)}, (∀ r ∈ rows, Dg r) → (rows.map rowT).map sUn = rows
  | [], _ => rfl
  | r :: rows, h => by
    rw [List.map_cons, List.map_cons, sUn_rowT (h r (List.mem_cons_self ..)), map_sUn (fun r hr => h r (List.mem_cons_of_mem _ hr))]

/-- The reference, where the text has two pieces and the first is one digit. -/
theorem specParse_ok {s r : List UInt8} {d : UInt8} (hs : splitB 58 s = [[d], r]) (hd : 0 ≤ sDig d) (hv : ValidC (sDig d) ((splitB 47 r).map sUn)) : ParseR s (sDig d) ((splitB 47 r).map sUn) true := by
  refine ⟨fun _ => ⟨hv, ?_⟩, fun h => by cases h⟩
  obtain ⟨hq, hr, hR⟩ := hv.dg
  have e := join_split 58 s
  rw [hs] at e
  have e2 := join_split 47 r
  rw [← e, codeT_eq, sDig_back hd, ← rowsTo_join, ← joinB_map, map_back hR, e2]
  rfl
theorem specParse_no {s : List UInt8} (h : ∀ d r, splitB 58 s = [[d], r] → 0 ≤ sDig d → ¬ ValidC (sDig d) ((splitB 47 r).map sUn)) : ParseR s 0 [] false := by
  refine ⟨(fun h => by cases h), fun _ => ⟨rfl, rfl, fun q R hv e => ?_⟩⟩
  obtain ⟨hq, hr, hR⟩ := hv.dg
  have n58 : (58 : UInt8) ∉ rowsTo R R.length := by
    intro hm
    have : ∀ k, (58 : UInt8) ∉ rowsTo R k := by
      intro k
      induction k with
      | zero => simp [rowsTo]
      | succ k ih =>
        rw [rowsTo]
        simp only [List.mem_append, not_or]
        refine ⟨⟨ih, by split <;> decide⟩, fun hm => ?_⟩
        obtain ⟨x, hx, ex⟩ := List.mem_map.1 hm
        have hk : k < R.length := by
          rcases Nat.lt_or_ge k R.length with c | c
          · exact c
          · simp [gr, List.getElem?_eq_none c] at hx
        rw [gr_lt hk] at hx
        have := hR _ (List.getElem_mem hk) x hx
        exact (digB_ne this.1 this.2).2 ex
    exact this _ hm
  have e1 : splitB 58 s = [[digB q], rowsTo R R.length] := by
    rw [e, codeT_eq, splitB_app _ (digB_58 hq.1 hq.2), splitB_none n58]
  have e2 : (splitB 47 (rowsTo R R.length)).map sUn = R := by rw [split_rows hR hr, map_sUn hR]
  refine h _ _ e1 (by rw [sDig_digB hq.1 hq.2]; exact hq.1) ?_
  rw [sDig_digB hq.1 hq.2, e2]
  exact hv
end Go.Proofs.YtcdbeepphdfipaaGreatDoor

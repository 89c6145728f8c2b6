/- ParseCode of both, in plain Lean: what each finds is what ParseR says. -/
import Derived.Test.YtcdbeepphdfipaaGreatDoorPars
import Derived.Test.YtcdbeepphdfipaaGreatDoorTxtR
namespace Go.Proofs.YtcdbeepphdfipaaGreatDoor
set_option linter.unusedVariables false

theorem codeT_eq (p : Int) (rows : List (List Int)) : codeT p rows = [digB p] ++ 58 :: rowsTo rows rows.length := rfl
theorem digB_58 {p : Int} (h0 : 0 ≤ p) (h9 : p ≤ 9) : (58 : UInt8) ∉ [digB p] := by
  intro h
  rw [List.mem_singleton] at h
  exact (digB_ne h0 h9).2 h.symm

/-- The first byte c of a text is told by what lies before it. -/
theorem cut_unique {c : UInt8} : ∀ {a b x y : List UInt8}, c ∉ a → c ∉ b → a ++ c :: x = b ++ c :: y → a = b ∧ x = y
  | [], [], x, y, _, _, h => ⟨rfl, by simpa using h⟩
  | [], z :: b, x, y, _, hb, h => by
    simp at h
    exact absurd (by rw [h.1]; exact List.mem_cons_self ..) hb
  | z :: a, [], x, y, ha, _, h => by
    simp at h
    exact absurd (by rw [h.1]; exact List.mem_cons_self ..) ha
  | z :: a, u :: b, x, y, ha, hb, h => by
    simp only [List.cons_append, List.cons.injEq] at h
    obtain ⟨e1, e2⟩ := cut_unique (fun e => ha (List.mem_cons_of_mem _ e)) (fun e => hb (List.mem_cons_of_mem _ e)) h.2
    exact ⟨by rw [h.1, e1], e2⟩

/-- The program, where it has cut the text and read a number: the text of what it read decides. -/
theorem implParse_ok {s a r : List UInt8} {p : Int} {t : ByteArray} (hs : s = a ++ 58 :: r) (ht : TxtR p ((splitB 47 r).map unT) t) (e : t = bs s) : ParseR s p ((splitB 47 r).map unT) true := by
  refine ⟨fun _ => ?_, fun h => by cases h⟩
  by_cases c : ValidC p ((splitB 47 r).map unT)
  · refine ⟨c, ?_⟩
    have h1 := ht.1 c
    have h2 := congrArg (fun b => b.data.toList) (e.symm.trans h1)
    simpa [bs_list] using h2
  · have h1 := ht.2 c
    have h2 := congrArg (fun b => b.data.toList) (e.symm.trans h1)
    simp only [bs_list] at h2
    rw [hs] at h2
    simp at h2
/-- .. and where the number is what a digit says. -/
theorem implParse_no {s a r : List UInt8} {p : Int} {t : ByteArray} (hs : s = a ++ 58 :: r) (ha : (58 : UInt8) ∉ a) (hp : ∀ q : Int, 0 ≤ q → q ≤ 9 → a = [digB q] → p = q) (ht : TxtR p ((splitB 47 r).map unT) t) (e : t ≠ bs s) : ParseR s 0 [] false := by
  refine ⟨(fun h => by cases h), fun _ => ⟨rfl, rfl, fun q R hv h => ?_⟩⟩
  obtain ⟨hq, hr, hR⟩ := hv.dg
  rw [hs, codeT_eq] at h
  obtain ⟨e1, e2⟩ := cut_unique ha (digB_58 hq.1 hq.2) h
  have ep := hp q hq.1 hq.2 e1
  have eR : (splitB 47 r).map unT = R := by rw [e2, split_rows hR hr, map_unT hR]
  rw [ep, eR] at ht
  refine e ?_
  rw [ht.1 hv, hs, codeT_eq, e1, e2]
theorem implParse_err {s a r : List UInt8} (hs : s = a ++ 58 :: r) (ha : (58 : UInt8) ∉ a) (hp : ∀ q : Int, 0 ≤ q → q ≤ 9 → a ≠ [digB q]) : ParseR s 0 [] false := by
  refine ⟨(fun h => by cases h), fun _ => ⟨rfl, rfl, fun q R hv h => ?_⟩⟩
  obtain ⟨hq, hr, hR⟩ := hv.dg
  rw [hs, codeT_eq] at h
  exact hp q hq.1 hq.2 (cut_unique ha (digB_58 hq.1 hq.2) h).1
theorem parse_none {s : List UInt8} (hs : (58 : UInt8) ∉ s) : ParseR s 0 [] false := by
  refine ⟨(fun h => by cases h), fun _ => ⟨rfl, rfl, fun q R hv h => hs ?_⟩⟩
  rw [h, codeT]
  exact List.mem_cons_of_mem _ (List.mem_cons_self ..)

/-- Pieces, put together again. -/
def joinB (c : UInt8) : List (List UInt8) → List UInt8
  | [] => []
  | [x] => x
  | x :: y :: r => x ++ c :: joinB c (y :: r)
theorem splitB_ne (c : UInt8) : ∀ l, splitB c l ≠ []
  | [] => by simp [splitB]
  | x :: l => by
    rw [splitB]
    split
    · simp
    · split <;> simp
theorem join_split (c : UInt8) : ∀ l, joinB c (splitB c l) = l
  | [] => rfl
  | x :: l => by
    have ih := join_split c l
    have hn := splitB_ne c l
    rw [splitB]
    by_cases hx : x = c
    · rw [if_pos hx]
      cases h : splitB c l with
      | nil => exact absurd h hn
      | cons y r =>
        rw [h] at ih
        rw [joinB, ih, List.nil_append, hx]
    · rw [if_neg hx]
      cases h : splitB c l with
      | nil => exact absurd h hn
      | cons y r =>
        rw [h] at ih
        cases r with
        | nil => simp only [joinB] at ih ⊢; rw [ih]
        | cons z r => simp only [joinB, List.cons_append] at ih ⊢; rw [ih]
theorem joinB_map : ∀ (rows : List (List Int)), joinB 47 (rows.map rowT) = Lib.join (rows.map rowT) [47]
  | [] => rfl
  | [r] => by simp [joinB, Lib.join_one]
  | r :: s :: rows => by
    have ih := joinB_map (s :: rows)
    rw [List.map_cons, List.map_cons, joinB, ← List.map_cons, ih, List.map_cons, Lib.join_cons, Lib.join_cons]
    simp [Lib.joinTail]

/-- The reference's number of a byte. -/
def sDig (b : UInt8) : Int := if 48 ≤ b.toNat ∧ b.toNat ≤ 57 then (b.toNat : Int) - 48 else if b.toNat = 46 then -1 else -2
def sUn (l : List UInt8) : List Int := l.map sDig
theorem sDig_digB {x : Int} (h0 : 0 ≤ x) (h9 : x ≤ 9) : sDig (digB x) = x := by
  have h : x = 0 ∨ x = 1 ∨ x = 2 ∨ x = 3 ∨ x = 4 ∨ x = 5 ∨ x = 6 ∨ x = 7 ∨ x = 8 ∨ x = 9 := by omega
  rcases h with rfl | rfl | rfl | rfl | rfl | rfl | rfl | rfl | rfl | rfl <;> decide
theorem sDig_back {b : UInt8} (h : 0 ≤ sDig b) : digB (sDig b) = b := by
  unfold sDig at h ⊢
  by_cases c : 48 ≤ b.toNat ∧ b.toNat ≤ 57
  · rw [if_pos c, digB]
    apply UInt8.toNat_inj.1
    rw [UInt8.toNat_ofNat']
    omega
  · rw [if_neg c] at h
    split at h <;> omega
theorem sUn_rowT : ∀ {r : List Int}, Dg r → sUn (rowT r) = r
  | [], _ => rfl
  | x :: r, h => by
    have h1 := sDig_digB (h x (List.mem_cons_self ..)).1 (h x (List.mem_cons_self ..)).2
    have h2 := sUn_rowT (r := r) (fun y hy => h y (List.mem_cons_of_mem _ hy))
    unfold sUn rowT at h2 ⊢
    rw [List.map_cons, List.map_cons, h1, h2]
theorem sUn_back : ∀ {l : List UInt8}, Dg (sUn l) → rowT (sUn l) = l
  | [], _ => rfl
  | b :: l, h => by
    have h1 := sDig_back (h (sDig b) (List.mem_cons_self ..)).1
    have h2 := sUn_back (l := l) (fun y hy => h y (List.mem_cons_of_mem _ hy))
    unfold sUn rowT at h2 ⊢
    rw [List.map_cons, List.map_cons, h1, h2]
theorem map_back : ∀ {ls : List (List UInt8)}, (∀ r ∈ ls.map sUn, Dg r) → (ls.map sUn).map rowT = ls
  | [], _ => rfl
  | l :: ls, h => by
    rw [List.map_cons, List.map_cons, sUn_back (h (sUn l) (List.mem_cons_self ..)), map_back (fun r hr => h r (List.mem_cons_of_mem _ hr))]
theorem map_sUn : ∀ {rows : List (List Int)}, (∀ r ∈ rows, Dg r) → (rows.map rowT).map sUn = rows
  | [], _ => rfl
  | r :: rows, h => by
    rw [List.map_cons, List.map_cons, sUn_rowT (h r (List.mem_cons_self ..)), map_sUn (fun r hr => h r (List.mem_cons_of_mem _ hr))]

/-- The reference, where the text has two pieces and the first is one digit. -/
theorem specParse_ok {s r : List UInt8} {d : UInt8} (hs : splitB 58 s = [[d], r]) (hd : 0 ≤ sDig d) (hv : ValidC (sDig d) ((splitB 47 r).map sUn)) : ParseR s (sDig d) ((splitB 47 r).map sUn) true := by
  refine ⟨fun _ => ⟨hv, ?_⟩, fun h => by cases h⟩
  obtain ⟨hq, hr, hR⟩ := hv.dg
  have e := join_split 58 s
  rw [hs] at e
  have e2 := join_split 47 r
  rw [← e, codeT_eq, sDig_back hd, ← rowsTo_join, ← joinB_map, map_back hR, e2]
  rfl
theorem specParse_no {s : List UInt8} (h : ∀ d r, splitB 58 s = [[d], r] → 0 ≤ sDig d → ¬ ValidC (sDig d) ((splitB 47 r).map sUn)) : ParseR s 0 [] false := by
  refine ⟨(fun h => by cases h), fun _ => ⟨rfl, rfl, fun q R hv e => ?_⟩⟩
  obtain ⟨hq, hr, hR⟩ := hv.dg
  have n58 : (58 : UInt8) ∉ rowsTo R R.length := by
    intro hm
    have : ∀ k, (58 : UInt8) ∉ rowsTo R k := by
      intro k
      induction k with
      | zero => simp [rowsTo]
      | succ k ih =>
        rw [rowsTo]
        simp only [List.mem_append, not_or]
        refine ⟨⟨ih, by split <;> decide⟩, fun hm => ?_⟩
        obtain ⟨x, hx, ex⟩ := List.mem_map.1 hm
        have hk : k < R.length := by
          rcases Nat.lt_or_ge k R.length with c | c
          · exact c
          · simp [gr, List.getElem?_eq_none c] at hx
        rw [gr_lt hk] at hx
        have := hR _ (List.getElem_mem hk) x hx
        exact (digB_ne this.1 this.2).2 ex
    exact this _ hm
  have e1 : splitB 58 s = [[digB q], rowsTo R R.length] := by
    rw [e, codeT_eq, splitB_app _ (digB_58 hq.1 hq.2), splitB_none n58]
  have e2 : (splitB 47 (rowsTo R R.length)).map sUn = R := by rw [split_rows hR hr, map_sUn hR]
  refine h _ _ e1 (by rw [sDig_digB hq.1 hq.2]; exact hq.1) ?_
  rw [sDig_digB hq.1 hq.2, e2]
  exact hv
end Go.Proofs.YtcdbeepphdfipaaGreatDoor

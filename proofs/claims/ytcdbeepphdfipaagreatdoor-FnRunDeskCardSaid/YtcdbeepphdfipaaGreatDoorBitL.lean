/- Sets as numbers below 128: both, either, without; parts and places. Plain. The least sets for which a question holds, by their sizes and then ascending. Plain. What is peeled: the greatest part that no check meets in just one place. Plain. The greatest number of sets apart. Plain. -/
import Derived.Test.YtcdbeepphdfipaaGreatDoorKnow
import Derived.Test.YtcdbeepphdfipaaGreatDoorPlaM
namespace Go.Proofs.YtcdbeepphdfipaaGreatDoor
open Go.RowKit
set_option linter.unusedVariables false

theorem and_i64 : ∀ s : Nat, s < 128 → ∀ t : Nat, t < 128 → bits BinOp.and IntKind.i64 (s : Int) (t : Int) = ((s &&& t : Nat) : Int) := by decide +kernel
theorem or_i64 : ∀ s : Nat, s < 128 → ∀ t : Nat, t < 128 → bits BinOp.or IntKind.i64 (s : Int) (t : Int) = ((s ||| t : Nat) : Int) := by decide +kernel
/-- a without b. -/
def wo (a b : Nat) : Nat := a - (a &&& b)
theorem andNot_i64 : ∀ s : Nat, s < 128 → ∀ t : Nat, t < 128 → bits BinOp.andNot IntKind.i64 (s : Int) (t : Int) = ((wo s t : Nat) : Int) := by decide +kernel
theorem wo_and : ∀ s : Nat, s < 128 → ∀ t : Nat, t < 128 → wo s (t &&& s) = wo s t ∧ wo s t &&& s = wo s t ∧ wo s t ≤ s := by decide +kernel

/-- a is a part of b. -/
def Sub (a b : Nat) : Prop := a &&& b = a
theorem Sub.refl (a : Nat) : Sub a a := Nat.and_self a
theorem Sub.bit {a b : Nat} (h : Sub a b) {i : Nat} (hi : a.testBit i = true) : b.testBit i = true := by
  have : (a &&& b).testBit i = true := by rw [h]; exact hi
  rw [Nat.testBit_and, Bool.and_eq_true] at this
  exact this.2
theorem Sub.mk {a b : Nat} (h : ∀ i, a.testBit i = true → b.testBit i = true) : Sub a b := by
  apply Nat.eq_of_testBit_eq
  intro i
  rw [Nat.testBit_and]
  cases ha : a.testBit i
  · rfl
  · rw [h i ha]; rfl
theorem Sub.trans {a b c : Nat} (h : Sub a b) (k : Sub b c) : Sub a c := Sub.mk (fun i hi => k.bit (h.bit hi))
theorem Sub.anti {a b : Nat} (h : Sub a b) (k : Sub b a) : a = b := by
  have h1 : a &&& b = a := h
  have h2 : b &&& a = b := k
  rw [Nat.and_comm] at h2
  rw [← h1, h2]
theorem Sub.le {a b : Nat} (h : Sub a b) : a ≤ b := by
  have h1 : a &&& b = a := h
  rw [← h1]
  exact Nat.and_le_right
theorem testBit_bitN (s i : Nat) : s.testBit i = decide (bitN s i = 1) := by rw [Nat.testBit_eq_decide_div_mod_eq]; rfl

/-- Just one: the place. -/
theorem one_place : ∀ h : Nat, h < 128 → wtN h 7 = 1 → ∃ j, j < 7 ∧ h = 2 ^ j := by decide +kernel
theorem place_one : ∀ j : Nat, j < 7 → wtN (2 ^ j) 7 = 1 := by decide +kernel
theorem wo_place : ∀ s : Nat, s < 128 → ∀ j : Nat, j < 7 → ∀ i : Nat, i < 7 → bitN (wo s (2 ^ j)) i = if i = j then 0 else bitN s i := by decide +kernel
theorem bit_big : ∀ s : Nat, s < 128 → ∀ i : Nat, 7 ≤ i → s.testBit i = false := fun s hs i hi => Nat.testBit_lt_two_pow (Nat.lt_of_lt_of_le hs (two_pow_le (m := 7) hi))
end Go.Proofs.YtcdbeepphdfipaaGreatDoor

namespace Go.Proofs.YtcdbeepphdfipaaGreatDoor
open Go.RowKit
set_option linter.unusedVariables false

/-- The t-th set in the order of sizes and then of values is taken. -/
def LeastP (N : Nat) (H : Nat → Prop) (t : Nat) (prev : List Int) : Prop := wtN (t % N) 7 = t / N ∧ H (t % N) ∧ ∀ j, j < prev.length → ¬ Sub (gi prev j).toNat (t % N)
/-- What is taken of the first t. -/
def LeastTo (N : Nat) (H : Nat → Prop) : Nat → List Int → Prop
  | 0, out => out = []
  | t + 1, out => ∃ prev, LeastTo N H t prev ∧ ((LeastP N H t prev ∧ out = prev ++ [((t % N : Nat) : Int)]) ∨ (¬ LeastP N H t prev ∧ out = prev))
theorem LeastTo.unique {N : Nat} {H : Nat → Prop} {t : Nat} : ∀ {a b : List Int}, LeastTo N H t a → LeastTo N H t b → a = b := by
  induction t with
  | zero => intro a b h h'; rw [show a = _ from h, show b = _ from h']
  | succ k ih =>
    rintro a b ⟨x, hx, h⟩ ⟨y, hy, h'⟩
    obtain rfl := ih hx hy
    rcases h with ⟨m, rfl⟩ | ⟨m, rfl⟩ <;> rcases h' with ⟨m', rfl⟩ | ⟨m', rfl⟩
    · rfl
    · exact absurd m m'
    · exact absurd m' m
    · rfl
theorem LeastTo.congr {N : Nat} {H H' : Nat → Prop} (hN : 0 < N) (he : ∀ s, s < N → (H s ↔ H' s)) {t : Nat} : ∀ {a : List Int}, LeastTo N H t a → LeastTo N H' t a := by
  induction t with
  | zero => intro a h; exact h
  | succ k ih =>
    rintro a ⟨x, hx, h⟩
    have e : LeastP N H k x ↔ LeastP N H' k x := by unfold LeastP; rw [he _ (Nat.mod_lt _ hN)]
    exact ⟨x, ih hx, by rw [← e]; exact h⟩
theorem LeastTo.bounds {N : Nat} {H : Nat → Prop} (hN : 0 < N) {t : Nat} : ∀ {a : List Int}, LeastTo N H t a → a.length ≤ t ∧ ∀ j, j < a.length → 0 ≤ gi a j ∧ gi a j < N := by
  induction t with
  | zero => intro a h; rw [show a = _ from h]; simp
  | succ k ih =>
    rintro a ⟨x, hx, h⟩
    have := ih hx
    rcases h with ⟨m, rfl⟩ | ⟨m, rfl⟩
    · refine ⟨by simp; omega, fun j hj => ?_⟩
      rw [List.length_append, List.length_singleton] at hj
      by_cases c : j < x.length
      · rw [gi_lt (by simp; omega), List.getElem_append_left c, ← gi_lt c]; exact this.2 j c
      · rw [gi_lt (by simp; omega), List.getElem_append_right (by omega)]
        simp
        have := Nat.mod_lt k hN
        omega
    · exact ⟨by omega, this.2⟩

theorem row_mod {N a s : Nat} (hs : s < N) : (a * N + s) % N = s := by rw [Nat.mul_comm, Nat.mul_add_mod, Nat.mod_eq_of_lt hs]
theorem row_div {N a s : Nat} (hs : s < N) : (a * N + s) / N = a := by rw [Nat.mul_comm, Nat.mul_add_div (by omega), Nat.div_eq_of_lt hs]; omega
theorem LeastTo.yes {N a s : Nat} {H : Nat → Prop} {prev : List Int} (h : LeastTo N H (a * N + s) prev) (hs : s < N) (h1 : wtN s 7 = a) (h2 : H s) (h3 : ∀ j, j < prev.length → ¬ Sub (gi prev j).toNat s) : LeastTo N H (a * N + (s + 1)) (prev ++ [(s : Int)]) := by
  have hP : LeastP N H (a * N + s) prev := by unfold LeastP; rw [row_mod hs, row_div hs]; exact ⟨h1, h2, h3⟩
  have h4 : LeastTo N H ((a * N + s) + 1) (prev ++ [(((a * N + s) % N : Nat) : Int)]) := ⟨prev, h, .inl ⟨hP, rfl⟩⟩
  rw [row_mod hs] at h4
  exact h4
theorem LeastTo.no {N a s : Nat} {H : Nat → Prop} {prev : List Int} (h : LeastTo N H (a * N + s) prev) (hs : s < N) (h1 : ¬ (wtN s 7 = a ∧ H s ∧ ∀ j, j < prev.length → ¬ Sub (gi prev j).toNat s)) : LeastTo N H (a * N + (s + 1)) prev := by
  have h4 : LeastTo N H ((a * N + s) + 1) prev := ⟨prev, h, .inr ⟨fun h2 => h1 (by unfold LeastP at h2; rw [row_mod hs, row_div hs] at h2; exact h2), rfl⟩⟩
  exact h4
theorem LeastTo.turn {N a : Nat} {H : Nat → Prop} {prev : List Int} (h : LeastTo N H (a * N + N) prev) : LeastTo N H ((a + 1) * N + 0) prev := by
  rw [Nat.add_mul, Nat.one_mul, Nat.add_zero]; exact h
/-- Sizes at which nothing holds add nothing. -/
theorem LeastTo.skip {N a : Nat} {H : Nat → Prop} {prev : List Int} (h : LeastTo N H (a * N) prev) (hno : ∀ s, s < N → wtN s 7 = a → ¬ H s) : LeastTo N H ((a + 1) * N) prev := by
  have key : ∀ s, s ≤ N → LeastTo N H (a * N + s) prev := by
    intro s
    induction s with
    | zero => intro _; exact h
    | succ s ih => intro hs; exact (ih (by omega)).no (by omega) (fun h2 => hno s (by omega) h2.1 h2.2.1)
  have := key N (Nat.le_refl _)
  rw [Nat.add_mul, Nat.one_mul]
  exact this
end Go.Proofs.YtcdbeepphdfipaaGreatDoor

namespace Go.Proofs.YtcdbeepphdfipaaGreatDoor
open Go.RowKit
set_option linter.unusedVariables false

/-- The places below k of a check's numbers that are not 0. -/
def supTo (x : List Int) : Nat → Nat
  | 0 => 0
  | k + 1 => if gi x k = 0 then supTo x k else supTo x k ||| 2 ^ k
def supN (x : List Int) : Nat := supTo x x.length

theorem supTo_lt (x : List Int) (k : Nat) : supTo x k < 2 ^ k := by
  induction k with
  | zero => simp [supTo]
  | succ k ih =>
    unfold supTo
    split
    · rw [Nat.pow_succ]; omega
    · exact Nat.or_lt_two_pow (by rw [Nat.pow_succ]; omega) (by rw [Nat.pow_succ]; have := Nat.two_pow_pos k; omega)

theorem supTo_add (x : List Int) (k : Nat) (h : gi x k ≠ 0) : supTo x k + 2 ^ k = supTo x (k + 1) := by
  have h1 := Nat.two_pow_add_eq_or_of_lt (supTo_lt x k) 1
  have h2 : supTo x (k + 1) = supTo x k ||| 2 ^ k := by rw [supTo, if_neg h]
  rw [h2, Nat.or_comm]
  rw [Nat.mul_one] at h1
  omega

theorem supTo_same (x : List Int) (k : Nat) (h : gi x k = 0) : supTo x k = supTo x (k + 1) := by rw [supTo, if_pos h]

/-- No check meets s in just one place. -/
def Stop (checks : List (List Int)) (s : Nat) : Prop := ∀ i, i < checks.length → wtN (supN (gr checks i) &&& s) 7 ≠ 1

/-- out is what stays of lost. -/
def PeelR (checks : List (List Int)) (lost out : Nat) : Prop := Sub out lost ∧ Stop checks out ∧ ∀ t, Sub t lost → Stop checks t → Sub t out

theorem PeelR.unique {checks : List (List Int)} {lost a b : Nat} (h : PeelR checks lost a) (h' : PeelR checks lost b) : a = b :=
  (h'.2.2 a h.1 h.2.1).anti (h.2.2 b h'.1 h'.2.1)

theorem PeelR.self {checks : List (List Int)} {s out : Nat} (h : PeelR checks s out) : out = s ↔ Stop checks s := by
  constructor
  · intro e; rw [← e]; exact h.2.1
  · intro e; exact (h.1).anti (h.2.2 s (Sub.refl s) e)

/-- Where a check meets s in just one place, no part of s that stops has it. -/
theorem stop_without {checks : List (List Int)} {s u t : Nat} (hs : s < 128) (hu : u < 128) (hus : Sub u s) (i : Nat) (hi : i < checks.length) (h1 : wtN (supN (gr checks i) &&& s) 7 = 1) (hc : Sub t s) (htu : Sub t u) (ht : Stop checks t) :
    Sub t (wo u (supN (gr checks i) &&& s)) := by
  have hlt : supN (gr checks i) &&& s < 128 := Nat.lt_of_le_of_lt Nat.and_le_right hs
  obtain ⟨j, hj, he⟩ := one_place _ hlt h1
  rw [he]
  have htj : t.testBit j = false := by
    rw [Bool.eq_false_iff]
    intro htj
    refine ht i hi ?_
    have : supN (gr checks i) &&& t = 2 ^ j := by
      apply Nat.eq_of_testBit_eq
      intro k
      have hk : (supN (gr checks i) &&& s).testBit k = (2 ^ j).testBit k := by rw [he]
      rw [Nat.testBit_and] at hk ⊢
      by_cases e : j = k
      · subst e
        rw [Nat.testBit_two_pow_self] at hk ⊢
        rw [Bool.and_eq_true] at hk
        rw [hk.1, htj]; rfl
      · rw [Nat.testBit_two_pow_of_ne e] at hk ⊢
        cases htk : t.testBit k
        · simp
        · rw [hc.bit htk] at hk
          rw [Bool.and_true] at hk ⊢
          exact hk
    rw [this]
    exact place_one j hj
  refine Sub.mk (fun k hk => ?_)
  have hku := htu.bit hk
  by_cases h7 : k < 7
  · rw [testBit_bitN, wo_place u hu j hj k h7]
    have hne : k ≠ j := fun e => by rw [e, htj] at hk; cases hk
    rw [if_neg hne]
    rw [testBit_bitN] at hku
    exact hku
  · rw [bit_big u hu k (by omega)] at hku; cases hku

theorem wo_sub {a b : Nat} (ha : a < 128) (hb : b < 128) : Sub (wo a b) a ∧ wo a b ≤ a := ⟨(wo_and a ha b hb).2.1, (wo_and a ha b hb).2.2⟩

theorem wo_less : ∀ a : Nat, a < 128 → ∀ b : Nat, b < 128 → wtN (b &&& a) 7 = 1 → wo a (b &&& a) < a ∧ wo a (b &&& a) = wo a b := by decide +kernel

/-- What is known on the way: cur is a part of lost that has each part that stops. -/
def PeelI (checks : List (List Int)) (lost cur : Nat) : Prop := Sub cur lost ∧ ∀ t, Sub t lost → Stop checks t → Sub t cur
theorem PeelI.start (checks : List (List Int)) (lost : Nat) : PeelI checks lost lost := ⟨Sub.refl _, fun _ h _ => h⟩
theorem PeelI.done {checks : List (List Int)} {lost cur : Nat} (h : PeelI checks lost cur) (hs : Stop checks cur) : PeelR checks lost cur := ⟨h.1, hs, h.2⟩

/-- next: what stays of cur behind the first i checks, all looked at against cur. -/
structure PeelN (checks : List (List Int)) (cur next i : Nat) : Prop where
  le : next ≤ cur
  sub : Sub next cur
  all : ∀ t, Sub t cur → Stop checks t → Sub t next
  same : next = cur → ∀ j, j < i → wtN (supN (gr checks j) &&& cur) 7 ≠ 1
theorem PeelN.start (checks : List (List Int)) (cur : Nat) : PeelN checks cur cur 0 := ⟨Nat.le_refl _, Sub.refl _, fun _ h _ => h, fun _ j hj => by omega⟩
theorem PeelN.skip {checks : List (List Int)} {cur next i : Nat} (h : PeelN checks cur next i) (hne : wtN (supN (gr checks i) &&& cur) 7 ≠ 1) : PeelN checks cur next (i + 1) :=
  ⟨h.le, h.sub, h.all, fun e j hj => by
    by_cases c : j = i
    · rw [c]; exact hne
    · exact h.same e j (by omega)⟩
theorem place_left : ∀ a : Nat, a < 128 → ∀ j : Nat, j < 7 → bitN (wo a (2 ^ j)) j = 0 := by decide +kernel
theorem PeelN.take {checks : List (List Int)} {cur next i : Nat} (h : PeelN checks cur next i) (hc : cur < 128) (hi : i < checks.length) (h1 : wtN (supN (gr checks i) &&& cur) 7 = 1) :
    PeelN checks cur (wo next (supN (gr checks i) &&& cur)) (i + 1) := by
  have hn : next < 128 := Nat.lt_of_le_of_lt h.le hc
  have hlt : supN (gr checks i) &&& cur < 128 := Nat.lt_of_le_of_lt Nat.and_le_right hc
  have hw := wo_sub hn hlt
  refine ⟨Nat.le_trans hw.2 h.le, hw.1.trans h.sub, fun t ht hs => stop_without hc hn h.sub i hi h1 ht (h.all t ht hs) hs, fun e => ?_⟩
  exfalso
  obtain ⟨j, hj, he⟩ := one_place _ hlt h1
  have hb := place_left next hn j hj
  rw [he] at e
  rw [e] at hb
  have : (supN (gr checks i) &&& cur).testBit j = true := by rw [he]; exact Nat.testBit_two_pow_self
  rw [Nat.testBit_and, Bool.and_eq_true, testBit_bitN cur, hb] at this
  simp at this
theorem PeelI.next {checks : List (List Int)} {lost cur next i : Nat} (h : PeelI checks lost cur) (k : PeelN checks cur next i) : PeelI checks lost next :=
  ⟨k.sub.trans h.1, fun t ht hs => k.all t (h.2 t ht hs) hs⟩

/-- One check, looked at against what is left by now. -/
theorem PeelI.take {checks : List (List Int)} {lost cur i : Nat} (h : PeelI checks lost cur) (hc : cur < 128) (hi : i < checks.length) (h1 : wtN (supN (gr checks i) &&& cur) 7 = 1) :
    PeelI checks lost (wo cur (supN (gr checks i) &&& cur)) :=
  h.next ((⟨Nat.le_refl _, Sub.refl _, fun _ h _ => h, fun _ j hj => by omega⟩ : PeelN checks cur cur 0).all |> fun _ => (⟨(wo_sub hc (Nat.lt_of_le_of_lt Nat.and_le_right hc)).2, (wo_sub hc (Nat.lt_of_le_of_lt Nat.and_le_right hc)).1, fun t ht hs => stop_without hc hc (Sub.refl _) i hi h1 ht ht hs, fun _ j hj => by omega⟩ : PeelN checks cur (wo cur (supN (gr checks i) &&& cur)) 0))
end Go.Proofs.YtcdbeepphdfipaaGreatDoor

namespace Go.Proofs.YtcdbeepphdfipaaGreatDoor
open Go.RowKit
set_option linter.unusedVariables false

/-- The greatest number of sets of which no two have something in common, and nothing of u. -/
def apt : List Int → Nat → Nat
  | [], _ => 0
  | x :: xs, u => if x.toNat &&& u = 0 then max (apt xs u) (1 + apt xs (u ||| x.toNat)) else apt xs u
theorem apt_le : ∀ (xs : List Int) (u : Nat), apt xs u ≤ xs.length
  | [], _ => Nat.le_refl _
  | x :: xs, u => by
    have h1 := apt_le xs u
    have h2 := apt_le xs (u ||| x.toNat)
    unfold apt
    rw [List.length_cons]
    split <;> omega
/-- The reference's loop. -/
def aptTo (xs : List Int) (u : Nat) : Nat → Nat
  | 0 => 0
  | k + 1 => if (gi xs k).toNat &&& u = 0 then max (aptTo xs u k) (1 + apt (xs.drop (k + 1)) (u ||| (gi xs k).toNat)) else aptTo xs u k
theorem aptTo_step (xs : List Int) (u : Nat) : ∀ k, k ≤ xs.length → max (aptTo xs u k) (apt (xs.drop k) u) = apt xs u
  | 0, _ => by simp [aptTo]
  | k + 1, hk => by
    have ih := aptTo_step xs u k (by omega)
    have e : xs.drop k = gi xs k :: xs.drop (k + 1) := by rw [gi_lt (by omega)]; exact List.drop_eq_getElem_cons (by omega)
    rw [e, apt] at ih
    rw [← ih, aptTo]
    split <;> omega
theorem aptTo_all (xs : List Int) (u : Nat) : aptTo xs u xs.length = apt xs u := by
  have h := aptTo_step xs u xs.length (Nat.le_refl _)
  rw [List.drop_length, apt] at h
  omega
theorem aptTo_le (xs : List Int) (u : Nat) : ∀ k, k ≤ xs.length → aptTo xs u k ≤ xs.length := fun k hk => by
  have h := aptTo_step xs u k hk
  have := apt_le xs u
  omega
end Go.Proofs.YtcdbeepphdfipaaGreatDoor

/- The laws' own small helpers. -/
import Derived.Test.YtahgjfmdafhedaaCodP
import Derived.Test.YtahgjfmdafhedaaHelp
namespace Go.Proofs.Ytahgjfmdafhedaa
open Go.RowKit Mat
set_option linter.unusedVariables false

set_option maxHeartbeats 1000000 in
theorem equalCode_any (p p' : Int) (v v' : Value) (A B : List (List Int)) (w : World) (hx : IsR w v A) (hy : IsR w v' B) :
    Calls Try.prog 11 #[.agg #[.int .i64 p, v], .agg #[.int .i64 p', v']] w fun e w' => e = .returned (.bool (decide (p = p') && eqLL A B)) ∧ New w w' := by
  obtain ⟨ao, n, cap, rfl, _, hn⟩ := hx.shape
  obtain ⟨ao', n', cap', rfl, _, hn'⟩ := hy.shape
  have HX := Lib.hid hx
  have HY := Lib.hid hy
  clear hx hy
  have h1 : New w ((w.alloc (.cells #[.int .i64 p, .slice ao n cap] 28)).alloc (.cells #[.int .i64 p', .slice ao' n' cap'] 28)) := (New.alloc _ _).trans (New.alloc _ _)
  by_cases hp : p = p'
  · subst hp
    obtain ⟨b, hb⟩ : ∃ b, b = eqLL A B := ⟨_, rfl⟩
    have HE := Lib.hid hb
    rw [← hb]
    clear hb
    go_enter Try.func11, Try.ntmps11
    go_wp2_with fail
    refine (equalLists_any _ _ A B _ (HX.out.new h1) (HY.out.new h1)).mono ?_
    rintro e w2 ⟨rfl, m, rfl⟩
    rw [← HE.out]
    go_wp2_with fail
    go_ret
    exact ⟨ret_bool (by simp), h1.trans (New.drewN _ _)⟩
  · have hd : (p == p') = false := by simpa using hp
    go_enter Try.func11, Try.ntmps11
    go_wp2_with fail
    go_ret
    exact ⟨ret_bool (by simp [hp]), h1⟩

/-- It ends with the answer to a question; nothing has turned. -/
def TellsT (w : World) (e : Ending) (w' : World) (Q : Prop) : Prop := ∃ b : Bool, e = .returned (.bool b) ∧ Told b Q ∧ w = w'
/-- A list has a number. -/
def inL (xs : List Int) (x : Int) : Prop := ∃ i, i < xs.length ∧ gi xs i = x
/-- Each number is greater than that ahead. -/
def AscL (xs : List Int) : Prop := ∀ i, i + 1 < xs.length → gi xs i < gi xs (i + 1)
/-- The places whose numbers are below 0. -/
def lostN (xs : List Int) (n : Nat) : Nat := setB (fun j => decide (gi xs j < 0)) n
theorem setB_add (P : Nat → Bool) (n : Nat) : setB P (n + 1) = setB P n + if P n then 2 ^ n else 0 := by
  show (if P n then setB P n ||| 2 ^ n else setB P n) = _
  cases h : P n with
  | false => simp
  | true =>
    simp only [if_true]
    have h1 := Nat.two_pow_add_eq_or_of_lt (setB_lt P n) 1
    rw [Nat.mul_one, Nat.or_comm] at h1
    rw [← h1, Nat.add_comm]
end Go.Proofs.Ytahgjfmdafhedaa

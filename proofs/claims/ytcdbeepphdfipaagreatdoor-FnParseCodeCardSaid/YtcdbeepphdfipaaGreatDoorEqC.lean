/- The laws' comparison of codes. -/
import Derived.Test.YtcdbeepphdfipaaGreatDoorLawE
import Derived.Test.YtcdbeepphdfipaaGreatDoorLawK
namespace Go.Proofs.YtcdbeepphdfipaaGreatDoor
open Go.RowKit
set_option linter.unusedVariables false

set_option maxHeartbeats 1000000 in
theorem equalCode_any (p p' : Int) (v v' : Value) (A B : List (List Int)) (w : World) (hx : IsR w v A) (hy : IsR w v' B) :
    Calls Tryz.prog 17 #[.agg #[.int .i64 p, v], .agg #[.int .i64 p', v']] w fun e w' => e = .returned (.bool (decide (p = p') && eqLL A B)) ∧ New w w' := by
  obtain ⟨ao, n, cap, rfl, _, hn⟩ := hx.shape
  obtain ⟨ao', n', cap', rfl, _, hn'⟩ := hy.shape
  have HX := Lib.hid hx
  have HY := Lib.hid hy
  clear hx hy
  have h1 : New w ((w.alloc (.cells #[.int .i64 p, .slice ao n cap] 24)).alloc (.cells #[.int .i64 p', .slice ao' n' cap'] 24)) := (New.alloc _ _).trans (New.alloc _ _)
  by_cases hp : p = p'
  · subst hp
    obtain ⟨b, hb⟩ : ∃ b, b = eqLL A B := ⟨_, rfl⟩
    have HE := Lib.hid hb
    rw [← hb]
    clear hb
    go_enter Tryz.func17, Tryz.ntmps17
    go_wp2_with fail
    refine (equalLists_any _ _ A B _ (HX.out.new h1) (HY.out.new h1)).mono ?_
    rintro e w2 ⟨rfl, m, rfl⟩
    rw [← HE.out]
    go_wp2_with fail
    go_ret
    exact ⟨ret_bool (by simp), h1.trans (New.drewN _ _)⟩
  · have hd : (p == p') = false := by simpa using hp
    go_enter Tryz.func17, Tryz.ntmps17
    go_wp2_with fail
    go_ret
    exact ⟨ret_bool (by simp [hp]), h1⟩

end Go.Proofs.YtcdbeepphdfipaaGreatDoor

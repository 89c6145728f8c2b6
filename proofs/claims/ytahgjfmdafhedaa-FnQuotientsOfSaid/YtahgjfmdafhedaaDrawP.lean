/- The generators of PowersOf's and QuotientsOf's arguments. -/
import Derived.Deep.CutBlock
import Derived.Deep.DeepCutAuto
import Derived.Deep.QuietTactic
import Derived.BigQuiet
import Derived.Test.YtahgjfmdafhedaaGenP
import Derived.Test.YtahgjfmdafhedaaCodP
namespace Go.Proofs.Ytahgjfmdafhedaa
open Go.RowKit Mat
set_option linter.unusedVariables false

/-- It ends with a prime, most often, some points and a number. -/
def DrawsP (w : World) (e : Ending) (w' : World) : Prop := ∃ (p : Int) (u : Value) (xs : List Int) (k : Int), e = .returned (.tuple #[.int .i64 p, u, .int .i64 k]) ∧ IsI w' u xs ∧ New w w'
set_option maxRecDepth 100000 in
set_option maxHeartbeats 2000000 in
theorem drawPowersOf_any (v : Value) (n : Nat) (w : World) (hb : RawB w v n) :
    Calls Try.prog 8 #[v] w fun e w' => DrawsP w e w' := by
  obtain ⟨ao, cap, rfl, -⟩ := id hb
  have HB := Lib.hid hb
  clear hb
  go_enter Try.func8, Try.ntmps8
  go_wp2_with fail
  refine (newReader_any _ _ _ HB.out).mono ?_
  rintro e w1 ⟨rfl, hr1, hn1⟩
  have H1 := Lib.hid (And.intro hr1 hn1)
  clear hr1 hn1
  go_wp2_with fail
  refine (aPrime_any w.heap.size 0 _ H1.out.1 (by omega)).mono ?_
  rintro e w2 ⟨p, rfl, hp, hr2, hc2⟩
  have H2 := Lib.hid (And.intro hr2 (H1.out.2.then hc2 (fun k hk => Nat.le_of_eq hk.symm)))
  clear hr2 hc2
  go_wp2_with fail
  refine (pick_any w.heap.size _ 7 _ H2.out.1 (by omega) (by omega)).mono ?_
  rintro e w3 ⟨x, rfl, hx, hr3, hc3⟩
  have hx7 := hx.2.1 (by omega)
  have hx0 := hx.1
  have H3 := Lib.hid (And.intro hr3 (H2.out.2.then hc3 (fun k hk => Nat.le_of_eq hk.symm)))
  clear hr3 hc3 hx
  go_wp2_with fail
  refine (pointsOf_any w.heap.size _ p (1 + x) _ H3.out.1 (by omega) (by omega) (by omega)).mono ?_
  rintro e w4 ⟨u, xs, rfl, ho, hf, hl, hr4, hc4⟩
  have hlen : xs.length ≤ 7 := by have : (xs.length : Int) ≤ max (1 + x) 0 := hl; omega
  obtain ⟨a4, l4, c4, rfl, _, _, _⟩ := ho.opened (by rw [List.length_map]; unfold Mid; omega)
  have hsz := hr4.lt
  have H4 := Lib.hid (And.intro (And.intro ho hf) (And.intro hr4 (H3.out.2.then hc4 (fun k hk => Nat.le_of_eq hk.symm))))
  have HS := Lib.hid (show w.heap.size < w3.heap.size from H3.out.1.lt)
  clear ho hf hr4 hc4 hl
  go_wp2_with fail
  refine (one_lit w.heap.size _ (fun _ => True) [2, 3, 1, 4, 2, 0, 5] _ _ _ _ rfl rfl H4.out.2.1 (by omega) (by simp) (by simp) (fun _ _ => trivial)).mono ?_
  rintro e w5 ⟨k, rfl, -, hr5, hc5⟩
  have H5 := Lib.hid (And.intro (H4.out.1.1.chg hc5 (fun g hg e => by have := H4.out.1.2 g hg; have := HS.out; omega)) (H4.out.2.2.then hc5 (fun k hk => Nat.le_of_eq hk.symm)))
  clear hr5 hc5
  go_wp2_with fail
  go_ret3
  exact ⟨p, _, xs, k, rfl, H5.out.1.isI (by unfold Mid; omega), H5.out.2⟩
end Go.Proofs.Ytahgjfmdafhedaa

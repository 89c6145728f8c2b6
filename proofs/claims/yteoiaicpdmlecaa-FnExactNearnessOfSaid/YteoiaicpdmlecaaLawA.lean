/- The laws' own helpers: sizes, copies, equality, marks. -/
import Derived.Test.YteoiaicpdmlecaaCopy
import Derived.Test.YteoiaicpdmlecaaSpecM
import Derived.Deep.QuietTactic
import Derived.BigQuiet
import Derived.Outline
namespace Go.Proofs.Yteoiaicpdmlecaa
open Go.RowKit
set_option linter.unusedVariables false

/-- As IsI and IsR, of whatever length memory can hold. -/
def RawI (w : World) (v : Value) (xs : List Int) : Prop :=
  ∃ ao cap, v = .slice ao xs.length cap ∧ (xs.length ≤ cap ∧ (ao = none → cap = 0)) ∧ cap ≤ maxLen ∧
    ∀ i, i < xs.length → ∃ b o, ao = some ⟨b, o, none⟩ ∧ w.cell? ⟨b, o + i, none⟩ = some (.int .i64 (gi xs i))
def RawR (w : World) (v : Value) (rows : List (List Int)) : Prop :=
  ∃ ao cap, v = .slice ao rows.length cap ∧ (rows.length ≤ cap ∧ (ao = none → cap = 0)) ∧ cap ≤ maxLen ∧
    ∀ i, i < rows.length → ∃ b o u, ao = some ⟨b, o, none⟩ ∧ w.cell? ⟨b, o + i, none⟩ = some u ∧ RawI w u (gr rows i)

theorem RawI.isI {w : World} {v : Value} {xs : List Int} (h : RawI w v xs) (hm : Mid xs.length) : IsI w v xs := by
  obtain ⟨ao, cap, e, h1, h2, h3⟩ := h
  exact ⟨ao, cap, e, h1, h2, hm, h3⟩

theorem RawR.isR {w : World} {v : Value} {rows : List (List Int)} (h : RawR w v rows) (hm : Mid rows.length) (hms : ∀ i, i < rows.length → Mid (gr rows i).length) : IsR w v rows := by
  obtain ⟨ao, cap, e, h1, h2, h3⟩ := h
  exact ⟨ao, cap, e, h1, h2, hm, fun i hi => by
    obtain ⟨b, o, u, e1, e2, e3⟩ := h3 i hi
    exact ⟨b, o, u, e1, e2, e3.isI (hms i hi)⟩⟩

theorem szIntS_any (v : Value) (xs : List Int) (left : Int) (w : World) (hx : RawI w v xs) (hl : 0 ≤ left ∧ left ≤ 1048576) :
    Calls Try.prog 72 #[v, .int .i64 left] w fun e w' => ∃ r : Int, e = .returned (.int .i64 r) ∧ w = w' ∧ r ≤ left ∧ (r < 0 ∨ (xs.length : Int) ≤ left) := by
  obtain ⟨ao, cap, rfl, ⟨h1, _⟩, h2, _⟩ := hx
  obtain ⟨n, hn⟩ : ∃ n, n = xs.length := ⟨_, rfl⟩
  rw [← hn] at h1 ⊢
  clear hn
  have hn2 : n ≤ 9223372036854775807 := by unfold maxLen at h2; omega
  clear h2
  by_cases hc : left - n < 0
  · go_enter Try.func72, Try.ntmps72
    go_wp2
    go_ret
    exact ⟨_, rfl, rfl, by omega, .inl (by omega)⟩
  · go_enter Try.func72, Try.ntmps72
    go_wp2
    go_ret
    exact ⟨_, rfl, rfl, by omega, .inr (by omega)⟩

set_option maxHeartbeats 1000000 in
theorem szIntSS_any (v : Value) (rows : List (List Int)) (left : Int) (w : World) (hx : RawR w v rows) (hl : 0 ≤ left ∧ left ≤ 1048576) :
    Calls Try.prog 36 #[v, .int .i64 left] w fun e w' => ∃ r : Int, e = .returned (.int .i64 r) ∧ w = w' ∧ r ≤ left ∧ (r < 0 ∨ ((rows.length : Int) ≤ left ∧ ∀ i, i < rows.length → ((gr rows i).length : Int) ≤ left)) := by
  obtain ⟨ao, cap, rfl, ⟨h1, _⟩, h2, hcell⟩ := hx
  obtain ⟨n, hn⟩ : ∃ n, n = rows.length := ⟨_, rfl⟩
  rw [← hn] at h1 hcell ⊢
  clear hn
  have hn2 : n ≤ 9223372036854775807 := by unfold maxLen at h2; omega
  have HC := Lib.hid hcell
  clear h2 hcell
  by_cases hc : left - n < 0
  · go_enter Try.func36, Try.ntmps36
    go_wp2
    go_ret
    exact ⟨_, rfl, rfl, by omega, .inl (by omega)⟩
  · go_enter Try.func36, Try.ntmps36
    go_wp2
    go_loop [1, 5] (fun l i => ∃ (k : Nat) (lf : Int), i = .int .i64 k ∧ l = .int .i64 lf ∧ k ≤ n ∧ 0 ≤ lf ∧ lf ≤ left ∧ ∀ j, j < k → ((gr rows j).length : Int) ≤ left) (fun _ i => n - (intOf i).toNat)
    case atStart => exact ⟨0, left - n, rfl, rfl, Nat.zero_le _, by omega, by omega, fun j hj => by omega⟩
    case round =>
      obtain ⟨k, lf, rfl, rfl, hk, hl0, hl1, hj⟩ := hrel
      have HJ := Lib.hid hj
      clear hj
      by_cases hkn : k < n
      · obtain ⟨b, o, u, rfl, ck, hu⟩ := HC.out k hkn
        obtain ⟨au, cu, eu, _⟩ := id hu
        obtain ⟨nu, hnu⟩ : ∃ nu, nu = (gr rows k).length := ⟨_, rfl⟩
        rw [← hnu] at eu
        have HNU := Lib.hid hnu
        clear hnu
        subst eu
        have HU := Lib.hid hu
        clear hu
        go_wp2_with fail
        refine (szIntS_any _ _ _ _ HU.out (by omega)).mono ?_
        rintro e w' ⟨r, rfl, rfl, hr1, hr2⟩
        by_cases hr : r < 0
        · clear hr2
          go_wp2_with fail
          go_ret
          exact ⟨_, rfl, rfl, by omega, .inl (by omega)⟩
        · have hr3 : ((gr rows k).length : Int) ≤ left := by rcases hr2 with h | h <;> omega
          have HR := Lib.hid hr3
          clear hr2 hr3
          go_wp2_with fail
          go_round
          case rel =>
            refine ⟨k + 1, r, by go_num, rfl, by omega, by omega, by omega, fun j hj => ?_⟩
            by_cases e : j = k
            · rw [e]; exact HR.out
            · exact HJ.out j (by omega)
          case measure => simp [intOf]; omega
      · obtain rfl : k = n := by omega
        go_wp2_with fail
        go_ret
        exact ⟨_, rfl, rfl, by omega, .inr ⟨by omega, HJ.out⟩⟩

/-- The first k numbers have been copied. -/
def cpTo (xs : List Int) (k : Nat) : List Int := xs.mapIdx (fun i a => if i < k then a else 0)
theorem cpTo_length (xs : List Int) (k : Nat) : (cpTo xs k).length = xs.length := by simp [cpTo]
theorem cpTo_get (xs : List Int) (k : Nat) {i : Nat} (hi : i < xs.length) : gi (cpTo xs k) i = if i < k then gi xs i else 0 := by
  rw [gi_lt (by rw [cpTo_length]; exact hi), gi_lt hi]; simp [cpTo]
theorem cpTo_zero (xs : List Int) : cpTo xs 0 = List.replicate xs.length 0 :=
  ext_gi (by simp [cpTo]) (fun i hi => by rw [cpTo_length] at hi; rw [cpTo_get _ _ hi, gi_replicate, if_neg (by omega)])
theorem cpTo_succ (xs : List Int) (k : Nat) (hk : k < xs.length) : (cpTo xs k).set k (gi xs k) = cpTo xs (k + 1) := by
  refine ext_gi (by simp [cpTo]) (fun i hi => ?_)
  rw [List.length_set, cpTo_length] at hi
  rw [gi_set (by rw [cpTo_length]; exact hi), cpTo_get _ _ hi, cpTo_get _ _ hi]
  by_cases e : k = i
  · subst e; rw [if_pos rfl, if_pos (by omega)]
  · rw [if_neg e]
    by_cases h : i < k
    · rw [if_pos h, if_pos (by omega)]
    · rw [if_neg h, if_neg (by omega)]
theorem cpTo_all (xs : List Int) : cpTo xs xs.length = xs :=
  ext_gi (cpTo_length _ _) (fun i hi => by rw [cpTo_length] at hi; rw [cpTo_get _ _ hi, if_pos hi])

set_option maxHeartbeats 1000000 in
theorem toIntS_any (v : Value) (xs : List Int) (w : World) (hx : IsI w v xs) :
    Calls Try.prog 20 #[v] w fun e w' => ∃ u, e = .returned u ∧ Own w' 3 u (xs.map (Value.int .i64)) ∧ From w.heap.size u ∧ New w w' := by
  obtain ⟨ao, n, cap, rfl, HN, hn⟩ := hx.shape
  have HX := Lib.hid hx
  clear hx
  go_enter Try.func20, Try.ntmps20
  go_wp2_with (at_make; refine wpList_mk rfl _ _ _ rfl tyInt _ _ _ _ n n rfl rfl rfl rfl (Nat.le_refl _) hn ?_; intro v3 w3 hv3 ho3 hn3 hs3; subst hv3; have HO3 := Lib.hid ho3; have HN3 := Lib.hid hn3; clear ho3 hn3 hs3)
  go_loopw [4] (fun i wr => ∃ k : Nat, i = .int .i64 k ∧ k ≤ n ∧ Own wr 3 (.slice (some ⟨w.heap.size, 0, none⟩) n n) ((cpTo xs k).map (Value.int .i64)) ∧ New w wr) (fun i _ => n - (intOf i).toNat)
  case atStart => exact ⟨0, rfl, Nat.zero_le _, by rw [cpTo_zero, List.map_replicate, ← HN.out]; exact HO3.out, HN3.out⟩
  case round =>
    obtain ⟨k, rfl, hk, hown, hnew⟩ := hrel
    have HO := Lib.hid hown
    have HW := Lib.hid hnew
    clear hown hnew
    by_cases hkn : k < n
    · have hkx : k < xs.length := by rw [← HN.out]; exact hkn
      obtain ⟨b, o, rfl, ck⟩ := (HX.out.new HW.out).at hkn
      obtain ⟨c1, f1⟩ := HO.out.cell (i := k) (by rw [List.length_map, cpTo_length]; exact hkx)
      go_wp2_with fail
      go_roundw
      case rel =>
        have hst := HO.out.set k (.int .i64 (gi xs k))
        rw [set_map_int, cpTo_succ _ _ hkx] at hst
        exact ⟨k + 1, by go_num, by omega, hst, HW.out.then (Chg.setCell _ _ _) (fun i hi => Nat.le_of_eq hi.symm)⟩
      case measure => simp [intOf]; omega
    · obtain rfl : k = n := by omega
      go_wp2_with fail
      go_ret
      exact ⟨_, rfl, by have h := HO.out; rw [HN.out, cpTo_all, ← HN.out] at h; exact h, From.new _ _ _, HW.out⟩

theorem set_replicate {vs : List Value} {u z : Value} {n k : Nat} (hk : vs.length = k) (hkn : k < n) : (vs ++ List.replicate (n - k) z).set k u = (vs ++ [u]) ++ List.replicate (n - (k + 1)) z := by
  subst hk
  rw [List.set_append_right _ _ (Nat.le_refl _), Nat.sub_self]
  obtain ⟨d, hd⟩ : ∃ d, n - vs.length = d + 1 := ⟨n - vs.length - 1, by omega⟩
  rw [hd, List.replicate_succ, List.set_cons_zero, show n - (vs.length + 1) = d by omega]
  simp

set_option maxHeartbeats 1000000 in
theorem toIntSS_any (v : Value) (rows : List (List Int)) (w : World) (hx : IsR w v rows) :
    Calls Try.prog 38 #[v] w fun e w' => ∃ u vs, e = .returned u ∧ OwnR w' 31 3 u vs rows ∧ FromR w.heap.size u vs rows ∧ New w w' := by
  obtain ⟨ao, n, cap, rfl, HN, hn⟩ := hx.shape
  have HX := Lib.hid hx
  clear hx
  go_enter Try.func38, Try.ntmps38
  go_wp2_with (at_make; refine wpList_mk rfl _ _ _ rfl tyRow _ _ _ _ n n rfl rfl rfl rfl (Nat.le_refl _) hn ?_; intro v3 w3 hv3 ho3 hn3 hs3; subst hv3; have HO3 := Lib.hid ho3; have HN3 := Lib.hid hn3; have HS3 := Lib.hid hs3; clear ho3 hn3 hs3)
  go_loopw [4] (fun i wr => ∃ (k : Nat) (vs : List Value), i = .int .i64 k ∧ k ≤ n ∧ Hid (vs.length = k) ∧ Own wr 31 (.slice (some ⟨w.heap.size, 0, none⟩) n n) (vs ++ List.replicate (n - k) (.slice none 0 0)) ∧
      (∀ i, i < k → Own wr 3 (gv vs i) ((gr rows i).map (Value.int .i64)) ∧ From (w.heap.size + 1) (gv vs i)) ∧ (∀ i j, i < k → j < k → i ≠ j → Apart (gv vs i) (gv vs j)) ∧ New w wr ∧ w.heap.size < wr.heap.size) (fun i _ => n - (intOf i).toNat)
  case atStart => exact ⟨0, [], rfl, Nat.zero_le _, rfl, by simpa using HO3.out, fun i hi => by omega, fun i j hi => by omega, HN3.out, HS3.out⟩
  case round =>
    obtain ⟨k, vs, rfl, hk, HL, hown, hin, hap, hnew, hsz⟩ := hrel
    have HO := Lib.hid hown
    have HW := Lib.hid hnew
    have HI := Lib.hid hin
    have HA := Lib.hid hap
    clear hown hnew hin hap
    by_cases hkn : k < n
    · have hkx : k < rows.length := by rw [← HN.out]; exact hkn
      obtain ⟨b, o, u, rfl, ck, hu⟩ := (HX.out.new HW.out).at hkn
      have HU := Lib.hid hu
      have hlk : k < (vs ++ List.replicate (n - k) (Value.slice none 0 0)).length := by have := HL.out; rw [List.length_append, List.length_replicate]; omega
      obtain ⟨au, nu, cu, rfl, _, _⟩ := hu.shape
      clear hu
      go_wp2_with fail
      refine (toIntS_any _ _ _ HU.out).mono ?_
      rintro e w2 ⟨u2, rfl, ho2, hf2, hn2⟩
      obtain ⟨a2, l2, c2, rfl, _, _, _⟩ := ho2.opened (by rw [List.length_map]; exact (by obtain ⟨_, _, _, _, _, hm, _⟩ := HU.out; exact hm))
      obtain ⟨c1, f1⟩ := (HO.out.new hn2).cell (i := k) hlk
      have HO2 := Lib.hid ho2
      have HF2 := Lib.hid hf2
      have HN2 := Lib.hid hn2
      clear ho2 hf2 hn2
      go_wp2_with fail
      go_roundw
      case rel =>
        have hl := HL.out
        have hst := (HO.out.new HN2.out).set k (.slice a2 l2 c2)
        rw [set_replicate hl hkn] at hst
        have hne : ∀ i, i < k → ∀ g, (gv vs i).ownBlock = some g → ¬ g = w.heap.size := fun i hi g hg => by have := (HI.out i hi).2 g hg; omega
        have hs2 := HN2.out.size
        have hcs : Chg (· = w.heap.size) w2 (w2.setCell ⟨w.heap.size, k, none⟩ (.slice a2 l2 c2)) := Chg.setCell w2 ⟨w.heap.size, k, none⟩ _
        refine ⟨k + 1, vs ++ [.slice a2 l2 c2], by go_num, by omega, by show _ = _; simp [hl], hst, fun i hi => ?_, fun i j hi hj hne' => ?_, (HW.out.trans HN2.out).then hcs (fun i hi => Nat.le_of_eq hi.symm), by simp; omega⟩
        · by_cases e : i < k
          · rw [gv_snoc_lt (by omega)]
            exact ⟨((HI.out i e).1.new HN2.out).chg hcs (hne i e), (HI.out i e).2⟩
          · obtain rfl : i = k := by omega
            rw [gv_snoc_eq (by omega)]
            exact ⟨HO2.out.chg hcs (fun g hg e => by have := HF2.out g hg; omega), HF2.out.mono hsz⟩
        · by_cases e : i < k
          · rw [gv_snoc_lt (by omega)]
            by_cases e' : j < k
            · rw [gv_snoc_lt (by omega)]; exact HA.out i j e e' hne'
            · rw [gv_snoc_eq (by omega)]; exact From.apart HF2.out (HI.out i e).1
          · rw [gv_snoc_eq (by omega), gv_snoc_lt (by omega)]
            exact (From.apart HF2.out (HI.out j (by omega)).1).symm
      case measure => simp [intOf]; omega
    · obtain rfl : k = n := by omega
      go_wp2_with fail
      go_ret
      have hl := HL.out
      have h := HO.out
      rw [Nat.sub_self, List.replicate_zero, List.append_nil] at h
      have hn' := HN.out
      exact ⟨_, vs, rfl, ⟨h, by omega, fun i hi => (HI.out i (by omega)).1, fun i j hi hj => HA.out i j (by omega) (by omega)⟩, ⟨From.new _ _ _, fun i hi => ((HI.out i (by omega)).2).mono (by omega)⟩, HW.out⟩
end Go.Proofs.Yteoiaicpdmlecaa

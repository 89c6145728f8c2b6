/- encode of both: the word of a message. EncodeWord of both. -/
import Derived.Test.YtaaajekibfaoeaaKnow
import Derived.Test.YtaaajekibfaoeaaLawK
import Derived.BigRegion
namespace Go.Proofs.Ytaaajekibfaoeaa
open Go.RowKit Mat
set_option linter.unusedVariables false

/-- Rows of one length, of rests. -/
def RowsOk (p : Int) (n : Nat) (rows : List (List Int)) : Prop := ∀ i, i < rows.length → (gr rows i).length = n ∧ ∀ k, k < n → 0 ≤ gi (gr rows i) k ∧ gi (gr rows i) k ≤ p - 1

/-- The word of the first k numbers of a message. -/
def encZ (p : Int) (n : Nat) (rows : List (List Int)) (m : List Int) : Nat → List Int
  | 0 => List.replicate n 0
  | k + 1 => addZ p (encZ p n rows m k) (gi m k) (gr rows k)

theorem encZ_length (p : Int) (n : Nat) (rows : List (List Int)) (m : List Int) (k : Nat) : (encZ p n rows m k).length = n := by
  induction k with
  | zero => simp [encZ]
  | succ k ih => simp [encZ, addZ_length, ih]

theorem encZ_range {p : Int} (hp : 0 < p) {n : Nat} {rows : List (List Int)} (m : List Int) {k : Nat} (hk : k ≤ rows.length) (hr : RowsOk p n rows) {i : Nat} (hi : i < n) :
    0 ≤ gi (encZ p n rows m k) i ∧ gi (encZ p n rows m k) i < p := by
  cases k with
  | zero => simp [encZ, gi_replicate]; exact hp
  | succ k =>
    have hl := (hr k (by omega)).1
    rw [encZ, addZ, addTo_get _ _ _ _ _ (by rw [encZ_length]; exact hi), if_pos (by omega)]
    exact ⟨Int.emod_nonneg _ (by omega), Int.emod_lt_of_pos _ hp⟩

theorem IsI.old {w : World} {v : Value} {xs : List Int} (h : IsI w v xs) (hx : 0 < xs.length) {g : Nat} (hg : v.ownBlock = some g) : g < w.heap.size := by
  obtain ⟨ao, n, cap, rfl, HN, hn⟩ := h.shape
  obtain ⟨b, o, rfl, hc⟩ := h.at (i := 0) (by rw [HN.out]; exact hx)
  simp [Value.ownBlock] at hg
  subst hg
  exact World.block_lt_of_cell? w _ hc

theorem encode_any (p : Int) (n : Nat) (vr vm : Value) (rows : List (List Int)) (m : List Int) (w : World) (hp : 2 ≤ p ∧ p ≤ 7) (hn : 1 ≤ n ∧ n ≤ 7) (hr : IsR w vr rows) (hm : IsI w vm m)
    (hok : RowsOk p n rows) (h1 : 1 ≤ rows.length) (hl : m.length ≤ rows.length) (hmr : ∀ i, i < m.length → 0 ≤ gi m i ∧ gi m i ≤ p - 1) :
    Calls Try.prog 68 #[.int .i64 p, vr, vm] w fun e w' => ∃ u, e = .returned u ∧ Own w' 3 u ((encZ p n rows m m.length).map (Value.int .i64)) ∧ From w.heap.size u ∧ New w w' := by
  obtain ⟨ar, nr, cr, rfl, HNR, hnr⟩ := hr.shape
  obtain ⟨am, nm, cm, rfl, HNM, hnm⟩ := hm.shape
  obtain ⟨b0, o0, u0, rfl, ck0, hu0⟩ := hr.at (i := 0) (by rw [HNR.out]; exact h1)
  rw [Nat.add_zero] at ck0
  obtain ⟨a0, n0, c0, rfl, HN0, hn0⟩ := hu0.shape
  obtain rfl : n0 = n := by rw [HN0.out]; exact (hok 0 (by omega)).1
  have hle : nm ≤ nr := by rw [HNR.out, HNM.out]; exact hl
  have h1' : 0 < nr := by rw [HNR.out]; omega
  have HR := Lib.hid hr
  have HM := Lib.hid hm
  have HOK := Lib.hid hok
  have HMR := Lib.hid hmr
  clear hr hm hok hmr hl h1 hu0
  go_enter Try.func68, Try.ntmps68
  go_wp2_with (at_make; refine wpList_mk rfl _ _ _ rfl tyInt _ _ _ _ n0 n0 rfl rfl rfl rfl (Nat.le_refl _) hn0 ?_; intro v3 w3 hv3 ho3 hn3 hs3; subst hv3; have HO3 := Lib.hid ho3; have HN3 := Lib.hid hn3; clear ho3 hn3 hs3)
  go_loopw [17] (fun i wr => ∃ k : Nat, i = .int .i64 k ∧ k ≤ nm ∧ Own wr 3 (.slice (some ⟨w.heap.size, 0, none⟩) n0 n0) ((encZ p n0 rows m k).map (Value.int .i64)) ∧ New w wr) (fun i _ => nm - (intOf i).toNat)
  case atStart => exact ⟨0, rfl, Nat.zero_le _, by rw [encZ, List.map_replicate]; exact HO3.out, HN3.out⟩
  case round =>
    obtain ⟨k, rfl, hk, hown, hnew⟩ := hrel
    have HO := Lib.hid hown
    have HW := Lib.hid hnew
    clear hown hnew
    by_cases hkm : k < nm
    · have hkm' : k < m.length := by rw [← HNM.out]; exact hkm
      have hkr : k < nr := by omega
      have hkr' : k < rows.length := by rw [← HNR.out]; exact hkr
      obtain ⟨bm, om, rfl, cm'⟩ := (HM.out.new HW.out).at hkm
      obtain ⟨b', o', u, e, ck, hu⟩ := HR.out.at hkr
      simp at e
      obtain ⟨rfl, rfl⟩ := e
      obtain ⟨au, nu, cu, rfl, HNU, hnu⟩ := hu.shape
      have hrk := HOK.out k hkr'
      have hnun : n0 = nu := by rw [HNU.out]; exact hrk.1.symm
      subst hnun
      have ck' := HW.out.cellNew ck
      have hmk := HMR.out k hkm'
      have hap : Apart (.slice (some ⟨w.heap.size, 0, none⟩) n0 n0) (.slice au n0 cu) := fun g hg hg' => by
        have := hu.old (by rw [hrk.1]; omega) hg'
        simp [Value.ownBlock] at hg
        omega
      have HU := Lib.hid (hu.new HW.out)
      have HRK := Lib.hid hrk
      have HAP := Lib.hid hap
      clear hu hrk hap ck
      have hlen : (gr rows k).length ≤ (encZ p n0 rows m k).length := by rw [encZ_length, HRK.out.1]; omega
      have hsx : Sm (encZ p n0 rows m k) := fun i hi => by have := encZ_range (p := p) (by omega) m (Nat.le_of_lt hkr') HOK.out (by rw [encZ_length] at hi; exact hi); omega
      have hsy : Sm (gr rows k) := fun i hi => by have := HRK.out.2 i (by rw [HRK.out.1] at hi; exact hi); omega
      have hmid : Mid (encZ p n0 rows m k).length := by rw [encZ_length]; unfold Mid; omega
      have HS := Lib.hid (And.intro hlen (And.intro hsx (And.intro hsy hmid)))
      have hp1 : 0 < p ∧ p ≤ 1000 := by omega
      have hby : -1000 ≤ gi m k ∧ gi m k ≤ 1000 := by omega
      clear hlen hsx hsy hmid
      go_wp2_with fail
      refine (add_any p (gi m k) _ _ (encZ p n0 rows m k) (gr rows k) _ hp1 hby HO.out HU.out HAP.out HS.out.1 HS.out.2.1 HS.out.2.2.1 HS.out.2.2.2).mono ?_
      rintro e w4 ⟨rfl, ho4, hc4⟩
      have HO4 := Lib.hid ho4
      have HC4 := Lib.hid hc4
      clear ho4 hc4
      go_wp2_with fail
      go_roundw
      case rel =>
        exact ⟨k + 1, by go_num, by omega, HO4.out, HW.out.then HC4.out (fun i hi => by simp [Value.ownBlock] at hi; omega)⟩
      case measure => simp [intOf]; omega
    · obtain rfl : k = nm := by omega
      go_wp2_with fail
      go_ret
      exact ⟨_, rfl, by rw [← HNM.out]; exact HO.out, From.new _ _ _, HW.out⟩

end Go.Proofs.Ytaaajekibfaoeaa

namespace Go.Proofs.Ytaaajekibfaoeaa
open Go.RowKit Mat
set_option linter.unusedVariables false

theorem validWord_any (p : Int) (v : Value) (xs : List Int) (k : Nat) (w : World) (hx : IsI w v xs) (hp : -1000 ≤ p ∧ p ≤ 1000) (hk : k ≤ 1000) :
    Calls Try.prog 108 #[.int .i64 p, v, .int .i64 k] w fun e w' => e = .returned (.bool (hasB p xs && decide (xs.length = k))) ∧ w = w' := by
  obtain ⟨ao, n, cap, rfl, HN, hn⟩ := hx.shape
  have HX := Lib.hid hx
  clear hx
  go_enter Try.func108, Try.ntmps108
  go_wp2_with fail
  go_loop [7] (fun i => ∃ j : Nat, i = .int .i64 j ∧ j ≤ n ∧ Hid (∀ l, l < j → inB (gi xs l) 0 (p - 1) = true)) (fun i => n - (intOf i).toNat)
  case atStart => exact ⟨0, rfl, Nat.zero_le _, fun l hl => by omega⟩
  case round =>
    obtain ⟨j, rfl, hj, HD⟩ := hrel
    by_cases hjn : j < n
    · obtain ⟨b, o, rfl, c⟩ := HX.out.at hjn
      cases hb : inB (gi xs j) 0 (p - 1) with
      | false =>
        have HQ := Lib.hid (hasB_no (p := p) (by rw [← HN.out]; exact hjn) hb)
        go_wp2_with (go_at_call 81; refine (inRange_any _ _ _ _).mono ?_; rintro e w' ⟨rfl, rfl⟩)
        go_ret
        exact ⟨by rw [HQ.out]; rfl, rfl⟩
      | true =>
        have HB := Lib.hid hb
        go_wp2_with (go_at_call 81; refine (inRange_any _ _ _ _).mono ?_; rintro e w' ⟨rfl, rfl⟩)
        go_round
        case rel =>
          refine ⟨j + 1, by go_num, by omega, fun l hl => ?_⟩
          by_cases e : l = j
          · rw [e]; exact HB.out
          · exact HD.out l (by omega)
        case measure => simp [intOf]; omega
    · obtain rfl : j = n := by omega
      have hh : hasB p xs = true := hasB_iff.2 (fun i hi => inB_iff.1 (HD.out i (by rw [HN.out]; exact hi)))
      have HH := Lib.hid hh
      clear hh
      go_wp2_with fail
      go_ret
      refine ⟨ret_bool ?_, rfl⟩
      rw [HH.out, ← HN.out, Bool.true_and]
      rw [Bool.eq_iff_iff]
      simp
      omega

/-- A valid code and a message of it. -/
def MsgC (p : Int) (rows : List (List Int)) (m : List Int) : Prop := ValidC p rows ∧ m.length = rows.length ∧ hasB p m = true
/-- What EncodeWord answers. -/
def EncR (p : Int) (rows : List (List Int)) (m : List Int) (out : List Int) : Prop :=
  (MsgC p rows m → out = encZ p (gr rows 0).length rows m m.length) ∧ (¬ MsgC p rows m → out = [])
theorem ValidC.rowsOk {p : Int} {rows : List (List Int)} (h : ValidC p rows) : RowsOk p (gr rows 0).length rows := fun i hi => h.few.2.2.2.2 i hi
theorem EncR.unique {p : Int} {rows : List (List Int)} {m a b : List Int} (h : EncR p rows m a) (h' : EncR p rows m b) : a = b := by
  by_cases c : MsgC p rows m
  · rw [h.1 c, h'.1 c]
  · rw [h.2 c, h'.2 c]

theorem EncR.small {p : Int} {rows : List (List Int)} {m a : List Int} (h : EncR p rows m a) : a.length ≤ 1048576 := by
  by_cases c : MsgC p rows m
  · rw [h.1 c, encZ_length]; have := c.1.few; omega
  · rw [h.2 c]; simp


end Go.Proofs.Ytaaajekibfaoeaa

/- spec.DrawParseCode: a text, that may be no code's. -/
import Derived.Test.YtcdbeepphdfipaaGreatDoorDrawK
import Derived.Test.YtcdbeepphdfipaaGreatDoorMut
import Derived.Test.YtcdbeepphdfipaaGreatDoorImpP
namespace Go.Proofs.YtcdbeepphdfipaaGreatDoor
open Go.RowKit Mat
set_option linter.unusedVariables false

theorem codeT_len {p : Int} {rows : List (List Int)} (h : ValidC p rows) : (codeT p rows).length ≤ 50 := by
  obtain ⟨hp, hd, r1, r6, h7⟩ := h.digs
  have hle := rowsTo_le h7 rows.length (Nat.le_refl _)
  rw [codeT, List.length_cons, List.length_cons]
  omega
theorem TxtR.short {p : Int} {rows : List (List Int)} {s : ByteArray} (h : TxtR p rows s) : ∃ l, s = bs l ∧ l.length ≤ 50 := by
  by_cases c : ValidC p rows
  · exact ⟨_, h.1 c, codeT_len c⟩
  · exact ⟨[], h.2 c, by simp⟩
theorem RowsQ.mid {out : List (List Int)} (h : RowsQ out) : Mid out.length ∧ ∀ i, i < out.length → Mid (gr out i).length := ⟨by have := h.1; unfold Mid; omega, fun i hi => by have := h.2 i hi; unfold Mid; omega⟩

set_option maxRecDepth 100000 in
set_option maxHeartbeats 4000000 in
theorem drawParseCode_any (v : Value) (n : Nat) (w : World) (hb : RawB w v n) :
    Calls Tryz.prog 18 #[v] w fun e w' => ∃ L : List UInt8, e = .returned (.string (bs L)) ∧ L.length ≤ 60 ∧ New w w' := by
  obtain ⟨ao, cap, rfl, -⟩ := id hb
  have HB := Lib.hid hb
  clear hb
  go_enter Tryz.func18, Tryz.ntmps18
  go_wp2_with fail
  refine (newReader_any _ _ _ HB.out).mono ?_
  rintro e w1 ⟨rfl, hr1, hn1⟩
  have H1 := Lib.hid (And.intro hr1 hn1)
  clear hr1 hn1
  go_wp2_with fail
  refine (goodCode_any w.heap.size 0 _ H1.out.1 (by omega)).mono ?_
  rintro e w2 ⟨a, l, c, vs, rows, p, rfl, ho, hf, hq, hp, hr2, hc2⟩
  have hn2 := H1.out.2.of_chg hc2 (fun k hk => Nat.le_of_eq hk.symm)
  have H2 := Lib.hid (And.intro (ho.isR hq.mid.1 hq.mid.2) (And.intro hr2 hn2))
  clear ho hf hq hr2 hc2 hn2
  go_wp2_with fail
  refine (specCodeText_any p _ rows _ H2.out.1).mono ?_
  rintro e w3 ⟨⟨s, rfl, hs⟩, hn3⟩
  obtain ⟨L, rfl, hL⟩ := hs.short
  have H3 := Lib.hid (And.intro (H2.out.2.1.new hn3) (H2.out.2.2.trans hn3))
  clear hn3 hs
  obtain ⟨S, hS⟩ : ∃ S, S = bs L := ⟨_, rfl⟩
  rw [← hS]
  have KM := Lib.hid (fun g w hr => mutate_any g 3001 L w hr (by omega) (by omega))
  rw [← hS] at KM
  have HS := Lib.hid hS
  clear hS
  go_wp2_with fail
  refine (pick_any w.heap.size 3000 3 _ H3.out.1 (by omega) (by omega)).mono ?_
  rintro e w4 ⟨x, rfl, hp4, hr4, hc4⟩
  have H4 := Lib.hid (And.intro hr4 (H3.out.2.of_chg hc4 (fun k hk => Nat.le_of_eq hk.symm)))
  clear hp4 hr4 hc4
  by_cases hx : x = 0
  · subst hx
    go_wp2_with fail
    refine (KM.out w.heap.size w4 H4.out.1).mono ?_
    rintro e w5 ⟨A, rfl, hA, hr5, hc5⟩
    have hA' : A.length ≤ L.length + 2 := hA
    have H5 := Lib.hid (H4.out.2.of_chg hc5 (fun k hk => Nat.le_of_eq hk.symm))
    clear hr5 hc5 hA
    go_wp2_with fail
    go_ret
    exact ⟨A, rfl, by omega, H5.out⟩
  · have hd : (x == 0) = false := by simp; omega
    go_wp2_with fail
    go_ret
    exact ⟨L, ret_sb HS.out, by omega, H4.out.2⟩
end Go.Proofs.YtcdbeepphdfipaaGreatDoor

/- LossesOf of both. -/
import Derived.Test.YtmehgchmnnbkfaaIsBest
import Derived.Test.YtmehgchmnnbkfaaEnco
namespace Go.Proofs.Ytmehgchmnnbkfaa
open Go.RowKit Mat
set_option linter.unusedVariables false

/-- How many of the sets below k may be lost, by their sizes. -/
def LossTo (p : Int) (rows : List (List Int)) (n : Nat) : Nat → List Int → Prop
  | 0, out => out = List.replicate (n + 1) 0
  | k + 1, out => ∃ prev, LossTo p rows n k prev ∧ ((MendC p rows k ∧ out = prev.set (wtN k 7) (gi prev (wtN k 7) + 1)) ∨ (¬ MendC p rows k ∧ out = prev))

theorem LossTo.unique {p : Int} {rows : List (List Int)} {n k : Nat} : ∀ {a b : List Int}, LossTo p rows n k a → LossTo p rows n k b → a = b := by
  induction k with
  | zero => intro a b h h'; rw [show a = _ from h, show b = _ from h']
  | succ k ih =>
    rintro a b ⟨x, hx, h⟩ ⟨y, hy, h'⟩
    obtain rfl := ih hx hy
    rcases h with ⟨m, rfl⟩ | ⟨m, rfl⟩ <;> rcases h' with ⟨m', rfl⟩ | ⟨m', rfl⟩
    · rfl
    · exact absurd m m'
    · exact absurd m' m
    · rfl

theorem LossTo.bounds {p : Int} {rows : List (List Int)} {n k : Nat} : ∀ {a : List Int}, LossTo p rows n k a → a.length = n + 1 ∧ ∀ i, i < a.length → 0 ≤ gi a i ∧ gi a i ≤ k := by
  induction k with
  | zero => intro a h; rw [show a = _ from h]; exact ⟨by simp, fun i hi => by rw [gi_replicate]; omega⟩
  | succ k ih =>
    rintro a ⟨x, hx, h⟩
    have := ih hx
    rcases h with ⟨m, rfl⟩ | ⟨m, rfl⟩
    · refine ⟨by rw [List.length_set]; exact this.1, fun i hi => ?_⟩
      rw [List.length_set] at hi
      rw [gi_set hi]
      by_cases e : wtN k 7 = i
      · rw [if_pos e, e]; have := this.2 i hi; omega
      · rw [if_neg e]; have := this.2 i hi; omega
    · exact ⟨this.1, fun i hi => by have := this.2 i hi; omega⟩

/-- What LossesOf answers. -/
def LossR (p : Int) (rows : List (List Int)) (out : List Int) : Prop := (ValidC p rows → LossTo p rows (gr rows 0).length (2 ^ (gr rows 0).length) out) ∧ (¬ ValidC p rows → out = [])
theorem LossR.unique {p : Int} {rows : List (List Int)} {a b : List Int} (h : LossR p rows a) (h' : LossR p rows b) : a = b := by
  by_cases c : ValidC p rows
  · exact (h.1 c).unique (h'.1 c)
  · rw [h.2 c, h'.2 c]
theorem LossR.small {p : Int} {rows : List (List Int)} {a : List Int} (h : LossR p rows a) : a.length ≤ 1048576 := by
  by_cases c : ValidC p rows
  · rw [(h.1 c).bounds.1]; have := c.few; omega
  · rw [h.2 c]; simp

set_option maxRecDepth 100000 in
set_option maxHeartbeats 2000000 in
theorem specLossesOf_any (p : Int) (v : Value) (rows : List (List Int)) (w : World) (hr : IsR w v rows) :
    Calls Try.prog 32 #[.agg #[.int .i64 p, v]] w fun e w' => GivesI w e w' (LossR p rows) := by
  obtain ⟨ao, m, cap, rfl, HN, hn⟩ := hr.shape
  have HR := Lib.hid hr
  clear hr
  have h1 : New w (w.alloc (.cells #[.int .i64 p, .slice ao m cap] 25)) := New.alloc _ _
  have b1 := Blk2.alloc w (.int .i64 p) (.slice ao m cap) 25
  go_enter Try.func32, Try.ntmps32
  go_wp2_with fail
  refine (validCode_any _ _ rows _ (HR.out.new h1)).mono ?_
  rintro e w2 ⟨⟨b, rfl, hb⟩, hn2⟩
  have h2 := h1.trans hn2
  have b2 := b1.new hn2
  have HB := Lib.hid hb
  clear hb hn2 b1 h1
  obtain ⟨c0, c1, _, _⟩ := b2.cells
  cases b with
  | false =>
    go_wp2_with fail
    go_ret
    exact givesNil h2 ⟨(fun h => by have := HB.out.2 h; cases this), fun _ => rfl⟩
  | true =>
    have hv := HB.out.1 rfl
    have hf := hv.few
    obtain ⟨q, rfl, hq⟩ := prime_nat (vtB_pr hv.1)
    haveI := hq.nz
    obtain ⟨n, hne⟩ : ∃ n, n = (gr rows 0).length := ⟨_, rfl⟩
    have ht : TabOk q n rows := by rw [hne]; exact vtB_ok hv.1
    have hn7 := ht.n7
    have hm1 : 1 ≤ rows.length := hf.1
    have hp := pow_lt hn7
    have hp0 : 0 < 2 ^ n := Nat.two_pow_pos _
    have hw12 := wrap_pow n (by omega)
    obtain ⟨N, hNN⟩ : ∃ N, N = 2 ^ n := ⟨_, rfl⟩
    rw [← hNN] at hp hp0 hw12
    have hmm : n + 1 ≤ 1099511627776 := by omega
    have HV := Lib.hid hv
    have HT := Lib.hid ht
    have HNE := Lib.hid hne
    have HNN := Lib.hid hNN
    clear hv hf hq HB ht hNN
    have hm0 : 0 < m := by rw [HN.out]; exact hm1
    obtain ⟨b0, o0, u0, rfl, ck0, hu0⟩ := (HR.out.new h2).at (i := 0) hm0
    rw [Nat.add_zero] at ck0
    obtain ⟨a0, mc, cc0, rfl, HM, hm⟩ := hu0.shape
    have hmc : n = mc := by rw [HM.out, hne]
    subst hmc
    clear hu0 hne
    have hsz : w.heap.size < w2.heap.size := (Array.getElem?_eq_some_iff.1 b2).1
    go_wp2_with (at_make; refine wpList_mk rfl _ _ _ rfl tyInt _ _ _ _ (n + 1) (n + 1) rfl rfl rfl rfl (Nat.le_refl _) hmm ?_; intro v3 w4 hv3 ho3 hn3 hs3; subst hv3; have HO3 := Lib.hid ho3; have HN3 := Lib.hid hn3; clear ho3 hn3 hs3)
    have h4 := h2.trans HN3.out
    have b4 := b2.new HN3.out
    clear h2 b2 c0 c1 HN3 ck0
    go_loopw [5] (fun i wr => ∃ (s : Nat) (out : List Int), i = .int .i64 s ∧ s ≤ N ∧ New w wr ∧ Blk2 wr w.heap.size (.int .i64 q) (.slice (some ⟨b0, o0, none⟩) m cap) 25 ∧ Own wr 3 (.slice (some ⟨w2.heap.size, 0, none⟩) (n + 1) (n + 1)) (out.map (Value.int .i64)) ∧ Hid (LossTo q rows n s out)) (fun i _ => N - (intOf i).toNat)
    case atStart => exact ⟨0, List.replicate (n + 1) 0, rfl, Nat.zero_le _, h4, b4, by rw [List.map_replicate]; exact HO3.out, rfl⟩
    case round =>
      obtain ⟨s, out, rfl, hs, hnew, hbr, hown, HD⟩ := hrel
      obtain ⟨d0, d1, _, _⟩ := hbr.cells
      have HO := Lib.hid hown
      clear hown
      by_cases hsN : s < N
      · have hs128 : s < 128 := by omega
        obtain ⟨j, hj⟩ : ∃ j, j = wtN s 7 := ⟨_, rfl⟩
        have hjn : j < n + 1 := by have := wtN_le s n; rw [hj, wt_more7 n (by omega) s (by rw [← HNN.out]; exact hsN)]; omega
        have hbd := HD.out.bounds
        have hgj := hbd.2 j (by rw [hbd.1]; exact hjn)
        have HJ := Lib.hid hj
        have HBD := Lib.hid hbd
        clear hj hbd
        go_wp2_with (go_at_call 83; refine (power_any n _ (by omega)).mono ?_; rintro e w' ⟨rfl, rfl⟩; rw [← HNN.out])
        refine (specMendable_any q n _ rows s _ (HR.out.new hnew) HT.out (by rw [← HNN.out]; exact hsN)).mono ?_
        rintro e w6 ⟨b, rfl, hb, hn6⟩
        have HB := Lib.hid hb
        have HO6 := Lib.hid (HO.out.new hn6)
        have h6 := hnew.trans hn6
        have b6 := hbr.new hn6
        clear hb hn6 hnew hbr d0 d1 HO
        cases b with
        | true =>
          obtain ⟨cj, fj⟩ := HO6.out.cell (i := j) (by rw [List.length_map, HBD.out.1]; exact hjn)
          rw [gv_map_int (by rw [HBD.out.1]; exact hjn)] at cj
          go_wp2_with (go_at_call 85; refine (weight_any s _ hs128).mono ?_; rintro e w' ⟨rfl, rfl⟩; rw [← HJ.out])
          go_roundw
          case rel =>
            have hst := HO6.out.set j (.int .i64 (gi out j + 1))
            rw [set_map_int] at hst
            exact ⟨s + 1, out.set j (gi out j + 1), by go_num, by omega, h6.then (Chg.setCell _ _ _) (fun i hi => by simp only at hi; omega), b6.chg (Chg.setCell _ _ _) (by simp only; omega), hst, ⟨out, HD.out, .inl ⟨HB.out.1 (by trivial), by rw [← HJ.out]⟩⟩⟩
          case measure => simp [intOf]; omega
        | false =>
          go_wp2_with fail
          go_roundw
          case rel => exact ⟨s + 1, out, by go_num, by omega, h6, b6, HO6.out, ⟨out, HD.out, .inr ⟨(fun h => by have := HB.out.2 h; cases this), rfl⟩⟩⟩
          case measure => simp [intOf]; omega
      · obtain rfl : s = N := by omega
        go_wp2_with (go_at_call 83; refine (power_any n _ (by omega)).mono ?_; rintro e w' ⟨rfl, rfl⟩; rw [← HNN.out])
        go_ret
        exact ⟨_, out, rfl, HO.out, (fun g hg => by simp [Value.ownBlock] at hg; omega), ⟨fun _ => by rw [← HNE.out, ← HNN.out]; exact HD.out, fun h => absurd HV.out h⟩, hnew⟩

set_option maxRecDepth 100000 in
set_option maxHeartbeats 2000000 in
theorem implLossesOf_any (p : Int) (v : Value) (rows : List (List Int)) (w : World) (hr : IsR w v rows) :
    Calls Try.prog 31 #[.agg #[.int .i64 p, v]] w fun e w' => GivesI w e w' (LossR p rows) := by
  obtain ⟨ao, m, cap, rfl, HN, hn⟩ := hr.shape
  have HR := Lib.hid hr
  clear hr
  have h1 : New w (w.alloc (.cells #[.int .i64 p, .slice ao m cap] 25)) := New.alloc _ _
  have b1 := Blk2.alloc w (.int .i64 p) (.slice ao m cap) 25
  go_enter Try.func31, Try.ntmps31
  go_wp2_with fail
  refine (known_any _ _ rows _ (HR.out.new h1)).mono ?_
  rintro e w2 ⟨⟨b, rfl, hb⟩, hn2⟩
  have h2 := h1.trans hn2
  have b2 := b1.new hn2
  have HB := Lib.hid hb
  clear hb hn2 b1 h1
  obtain ⟨c0, c1, _, _⟩ := b2.cells
  cases b with
  | false =>
    go_wp2_with fail
    go_ret
    exact givesNil h2 ⟨(fun h => by have := HB.out.2 h; cases this), fun _ => rfl⟩
  | true =>
    have hv := HB.out.1 rfl
    have hf := hv.few
    obtain ⟨q, rfl, hq⟩ := prime_nat (vtB_pr hv.1)
    haveI := hq.nz
    obtain ⟨n, hne⟩ : ∃ n, n = (gr rows 0).length := ⟨_, rfl⟩
    have ht : TabOk q n rows := by rw [hne]; exact vtB_ok hv.1
    have hn7 := ht.n7
    have hm1 : 1 ≤ rows.length := hf.1
    have hp := pow_lt hn7
    have hp0 : 0 < 2 ^ n := Nat.two_pow_pos _
    have hw12 := wrap_pow n (by omega)
    obtain ⟨N, hNN⟩ : ∃ N, N = 2 ^ n := ⟨_, rfl⟩
    rw [← hNN] at hp hp0 hw12
    have hmm : n + 1 ≤ 1099511627776 := by omega
    have HV := Lib.hid hv
    have HT := Lib.hid ht
    have HNE := Lib.hid hne
    have HNN := Lib.hid hNN
    clear hv hf hq HB ht hNN
    clear hne
    go_wp2_with fail
    refine (columnsOf_any _ _ rows _ (HR.out.new h2) hm1).mono ?_
    rintro e w3 ⟨rfl, hn3⟩
    rw [← HNE.out]
    have h3 := h2.trans hn3
    have b3 := b2.new hn3
    obtain ⟨d0, d1, _, _⟩ := b3.cells
    have hsz : w.heap.size < w3.heap.size := (Array.getElem?_eq_some_iff.1 b3).1
    clear c0 c1 b2 hn3 h2
    go_wp2_with (at_make; refine wpList_mk rfl _ _ _ rfl tyInt _ _ _ _ (n + 1) (n + 1) rfl rfl rfl rfl (Nat.le_refl _) hmm ?_; intro v3 w4 hv3 ho3 hn3 hs3; subst hv3; have HO3 := Lib.hid ho3; have HN3 := Lib.hid hn3; clear ho3 hn3 hs3; obtain ⟨g0, g1, _, _⟩ := (b3.new HN3.out).cells)
    have h4 := h3.trans HN3.out
    have b4 := b3.new HN3.out
    refine (columnsOf_any _ _ rows _ (HR.out.new h4) hm1).mono ?_
    rintro e w5 ⟨rfl, hn5⟩
    rw [← HNE.out]
    replace h4 := h4.trans hn5
    replace b4 := b4.new hn5
    replace HO3 := Lib.hid (HO3.out.new hn5)
    clear g0 g1 d0 d1 hn5 b3 h3 HN3
    go_wp2_with fail
    go_loopw [21] (fun i wr => ∃ (s : Nat) (out : List Int), i = .int .i64 s ∧ s ≤ N ∧ New w wr ∧ Blk2 wr w.heap.size (.int .i64 q) (.slice ao m cap) 25 ∧ Own wr 3 (.slice (some ⟨w3.heap.size, 0, none⟩) (n + 1) (n + 1)) (out.map (Value.int .i64)) ∧ Hid (LossTo q rows n s out)) (fun i _ => N - (intOf i).toNat)
    case atStart => exact ⟨0, List.replicate (n + 1) 0, rfl, Nat.zero_le _, h4, b4, by rw [List.map_replicate]; exact HO3.out, rfl⟩
    case round =>
      obtain ⟨s, out, rfl, hs, hnew, hbr, hown, HD⟩ := hrel
      obtain ⟨d0, d1, _, _⟩ := hbr.cells
      have HO := Lib.hid hown
      clear hown
      by_cases hsN : s < N
      · have hs128 : s < 128 := by omega
        obtain ⟨j, hj⟩ : ∃ j, j = wtN s 7 := ⟨_, rfl⟩
        have hjn : j < n + 1 := by have := wtN_le s n; rw [hj, wt_more7 n (by omega) s (by rw [← HNN.out]; exact hsN)]; omega
        have hbd := HD.out.bounds
        have hgj := hbd.2 j (by rw [hbd.1]; exact hjn)
        have HJ := Lib.hid hj
        have HBD := Lib.hid hbd
        clear hj hbd
        go_wp2_with fail
        refine (mendable_any q n _ rows s _ (HR.out.new hnew) HT.out (by rw [← HNN.out]; exact hsN)).mono ?_
        rintro e w6 ⟨b, rfl, hb, hn6⟩
        have HB := Lib.hid hb
        have HO6 := Lib.hid (HO.out.new hn6)
        have h6 := hnew.trans hn6
        have b6 := hbr.new hn6
        clear hb hn6 hnew hbr d0 d1 HO
        cases b with
        | true =>
          obtain ⟨cj, fj⟩ := HO6.out.cell (i := j) (by rw [List.length_map, HBD.out.1]; exact hjn)
          rw [gv_map_int (by rw [HBD.out.1]; exact hjn)] at cj
          go_wp2_with (go_at_call 69; refine (size_any s _ hs128).mono ?_; rintro e w' ⟨rfl, rfl⟩; rw [← HJ.out])
          go_roundw
          case rel =>
            have hst := HO6.out.set j (.int .i64 (gi out j + 1))
            rw [set_map_int] at hst
            exact ⟨s + 1, out.set j (gi out j + 1), by go_num, by omega, h6.then (Chg.setCell _ _ _) (fun i hi => by simp only at hi; omega), b6.chg (Chg.setCell _ _ _) (by simp only; omega), hst, ⟨out, HD.out, .inl ⟨HB.out.1 (by trivial), by rw [← HJ.out]⟩⟩⟩
          case measure => simp [intOf]; omega
        | false =>
          go_wp2_with fail
          go_roundw
          case rel => exact ⟨s + 1, out, by go_num, by omega, h6, b6, HO6.out, ⟨out, HD.out, .inr ⟨(fun h => by have := HB.out.2 h; cases this), rfl⟩⟩⟩
          case measure => simp [intOf]; omega
      · obtain rfl : s = N := by omega
        go_wp2_with fail
        go_ret
        exact ⟨_, out, rfl, HO.out, (fun g hg => by simp [Value.ownBlock] at hg; omega), ⟨fun _ => by rw [← HNE.out, ← HNN.out]; exact HD.out, fun h => absurd HV.out h⟩, hnew⟩

end Go.Proofs.Ytmehgchmnnbkfaa

/- GroupsOf and TurnedGroups of both. -/
import Derived.Test.YtaaajekibfaoeaaSchL
import Derived.Test.YtaaajekibfaoeaaSchI
namespace Go.Proofs.Ytaaajekibfaoeaa
open Go.RowKit Mat
set_option linter.unusedVariables false

theorem groups1_any (q : Nat) [NeZero q] (n g1 g2 : Nat) (v o : Value) (rows : List (List Int)) (own : List Int) (w : World) (hr : IsR w v rows) (ho : IsI w o own) (ht : TabOk q n rows) (hv : own.length = rows.length ∧ ∀ j, j < own.length → 0 ≤ gi own j ∧ gi own j ≤ 4) (hbs : Blk3 w g1 (.int .i64 q) v o 43) (hbf : Blk1 w g2 (.int .i64 q) 69) :
    Asks Try.prog w 91 #[.pointer (some ⟨g1, 0, none⟩), .pointer (some ⟨g2, 0, none⟩)] 32 (KnowsQ q n rows own) := by
  refine ⟨fun xs w' => by kernel_rfl, fun s w' hs hn => ?_⟩
  show Calls Try.prog 91 #[.int .i64 s, .pointer (some ⟨g1, 0, none⟩), .pointer (some ⟨g2, 0, none⟩)] w' _
  obtain ⟨ao, m, cap, rfl, HN, hm⟩ := hr.shape
  obtain ⟨ay, my, cay, rfl, HM, hm⟩ := ho.shape
  obtain ⟨c0, c1, c2, _, _, _⟩ := (hbs.new hn).cells
  obtain ⟨d0, _⟩ := (hbf.new hn).cells
  have HR := Lib.hid (hr.new hn)
  have HO := Lib.hid (ho.new hn)
  have HT := Lib.hid ht
  have HV := Lib.hid hv
  clear hr ho ht hv hbs hbf hn
  go_enter Try.func91, Try.ntmps91
  go_wp2_with fail
  refine (implKnows_any q n _ _ rows own s _ HR.out HO.out HT.out HV.out hs).mono ?_
  rintro e w5 ⟨b, rfl, hb, hn5⟩
  have H5 := Lib.hid (And.intro hb hn5)
  clear hb hn5
  go_wp2_with fail
  go_ret
  exact ⟨⟨b, rfl, H5.out.1⟩, H5.out.2⟩

theorem turned1_any (q : Nat) [NeZero q] (n g1 g2 : Nat) (v o : Value) (rows : List (List Int)) (own : List Int) (w : World) (hr : IsR w v rows) (ho : IsI w o own) (ht : TabOk q n rows) (hv : own.length = rows.length ∧ ∀ j, j < own.length → 0 ≤ gi own j ∧ gi own j ≤ 4) (hbs : Blk3 w g1 (.int .i64 q) v o 43) (hbf : Blk1 w g2 (.int .i64 q) 69) :
    Asks Try.prog w 102 #[.pointer (some ⟨g1, 0, none⟩), .pointer (some ⟨g2, 0, none⟩)] 32 (fun s => ¬ KnowsQ q n rows own (31 - s)) := by
  refine ⟨fun xs w' => by kernel_rfl, fun s w' hs hn => ?_⟩
  show Calls Try.prog 102 #[.int .i64 s, .pointer (some ⟨g1, 0, none⟩), .pointer (some ⟨g2, 0, none⟩)] w' _
  obtain ⟨ao, m, cap, rfl, HN, hm⟩ := hr.shape
  obtain ⟨ay, my, cay, rfl, HM, hm⟩ := ho.shape
  obtain ⟨c0, c1, c2, _, _, _⟩ := (hbs.new hn).cells
  obtain ⟨d0, _⟩ := (hbf.new hn).cells
  have HR := Lib.hid (hr.new hn)
  have HO := Lib.hid (ho.new hn)
  have HT := Lib.hid ht
  have HV := Lib.hid hv
  have htb := turn_bits s hs
  obtain ⟨r, hr'⟩ : ∃ r, r = 31 - s := ⟨_, rfl⟩
  rw [← hr'] at htb
  have hr32 : r < 32 := by omega
  have HRR := Lib.hid hr'
  clear hr ho ht hv hbs hbf hn hr'
  go_enter Try.func102, Try.ntmps102
  go_wp2_with fail
  refine (implKnows_any q n _ _ rows own r _ HR.out HO.out HT.out HV.out hr32).mono ?_
  rintro e w5 ⟨b, rfl, hb, hn5⟩
  have H5 := Lib.hid (And.intro hb hn5)
  clear hb hn5
  go_wp2_with fail
  go_ret
  refine ⟨⟨!b, rfl, ?_⟩, H5.out.2⟩
  show (!b) = true ↔ ¬ KnowsQ q n rows own (31 - s)
  rw [← HRR.out, ← H5.out.1]
  cases b <;> simp

set_option maxRecDepth 100000 in
set_option maxHeartbeats 1000000 in
theorem implGroupsOf_any (p : Int) (v o : Value) (rows : List (List Int)) (own : List Int) (w : World) (hr : IsR w v rows) (ho : IsI w o own) :
    Calls Try.prog 30 #[.agg #[.int .i64 p, v, o]] w fun e w' => GivesI w e w' (GroupsR p rows own) := by
  obtain ⟨ao, n, cap, rfl, HN, hn⟩ := hr.shape
  obtain ⟨ay, m, cay, rfl, HM, hm⟩ := ho.shape
  have h1 : New w (w.alloc (.cells #[.int .i64 p, .slice ao n cap, .slice ay m cay] 43)) := New.alloc _ _
  have b1 := Blk3.alloc w (.int .i64 p) (.slice ao n cap) (.slice ay m cay) 43
  have HR := Lib.hid hr
  have HO := Lib.hid ho
  clear hr ho
  go_enter Try.func30, Try.ntmps30
  go_wp2_with fail
  refine (schKnown_any p _ _ rows own _ (HR.out.new h1) (HO.out.new h1)).mono ?_
  rintro e w2 ⟨⟨b, rfl, hb⟩, hn2⟩
  have h3 := (h1.trans hn2).trans (New.alloc w2 (.cells #[.int .i64 p] 69))
  have b3 := (b1.new hn2).new (New.alloc w2 (.cells #[.int .i64 p] 69))
  have f3 := Blk1.alloc w2 (.int .i64 p) 69
  have H3 := Lib.hid (And.intro h3 (And.intro b3 f3))
  have HB := Lib.hid hb
  clear h1 b1 hn2 h3 b3 f3 hb
  cases b with
  | false =>
    go_wp2_with fail
    go_ret
    exact givesNil H3.out.1 ⟨(fun h => by have := HB.out.2 h; cases this), fun _ => rfl⟩
  | true =>
    have hv := HB.out.1 rfl
    obtain ⟨q, rfl, hq⟩ := prime_nat (vtB_pr hv.1)
    haveI := hq.nz
    have HV := Lib.hid hv
    clear hv hq HB
    go_wp2_with fail
    refine (least_any 5 (by omega) _ _ _ _ (groups1_any q (gr rows 0).length _ _ _ _ rows own _ (HR.out.new H3.out.1) (HO.out.new H3.out.1) (vtB_ok HV.out.1) HV.out.2 H3.out.2.1 H3.out.2.2)).mono ?_
    rintro e w4 ⟨u, out, rfl, ho, hf, hq, hn4⟩
    have HE := Lib.hid (And.intro ho (And.intro hf (And.intro hq hn4)))
    clear ho hf hq hn4
    go_wp2_with fail
    go_ret
    exact ⟨u, out, rfl, HE.out.1, (fun g hg => Nat.le_trans H3.out.1.size (HE.out.2.1 g hg)), ⟨fun _ => ⟨q, this, rfl, HE.out.2.2.1⟩, fun h => absurd HV.out h⟩, H3.out.1.trans HE.out.2.2.2⟩

set_option maxRecDepth 100000 in
set_option maxHeartbeats 1000000 in
theorem implTurnedGroups_any (p : Int) (v o : Value) (rows : List (List Int)) (own : List Int) (w : World) (hr : IsR w v rows) (ho : IsI w o own) :
    Calls Try.prog 44 #[.agg #[.int .i64 p, v, o]] w fun e w' => GivesI w e w' (TurnedR p rows own) := by
  obtain ⟨ao, n, cap, rfl, HN, hn⟩ := hr.shape
  obtain ⟨ay, m, cay, rfl, HM, hm⟩ := ho.shape
  have h1 : New w (w.alloc (.cells #[.int .i64 p, .slice ao n cap, .slice ay m cay] 43)) := New.alloc _ _
  have b1 := Blk3.alloc w (.int .i64 p) (.slice ao n cap) (.slice ay m cay) 43
  have HR := Lib.hid hr
  have HO := Lib.hid ho
  clear hr ho
  go_enter Try.func44, Try.ntmps44
  go_wp2_with fail
  refine (schKnown_any p _ _ rows own _ (HR.out.new h1) (HO.out.new h1)).mono ?_
  rintro e w2 ⟨⟨b, rfl, hb⟩, hn2⟩
  have h3 := (h1.trans hn2).trans (New.alloc w2 (.cells #[.int .i64 p] 69))
  have b3 := (b1.new hn2).new (New.alloc w2 (.cells #[.int .i64 p] 69))
  have f3 := Blk1.alloc w2 (.int .i64 p) 69
  have H3 := Lib.hid (And.intro h3 (And.intro b3 f3))
  have HB := Lib.hid hb
  clear h1 b1 hn2 h3 b3 f3 hb
  cases b with
  | false =>
    go_wp2_with fail
    go_ret
    exact givesNil H3.out.1 ⟨(fun h => by have := HB.out.2 h; cases this), fun _ => rfl⟩
  | true =>
    have hv := HB.out.1 rfl
    obtain ⟨q, rfl, hq⟩ := prime_nat (vtB_pr hv.1)
    haveI := hq.nz
    have HV := Lib.hid hv
    clear hv hq HB
    go_wp2_with fail
    refine (least_any 5 (by omega) _ _ _ _ (turned1_any q (gr rows 0).length _ _ _ _ rows own _ (HR.out.new H3.out.1) (HO.out.new H3.out.1) (vtB_ok HV.out.1) HV.out.2 H3.out.2.1 H3.out.2.2)).mono ?_
    rintro e w4 ⟨u, out, rfl, ho, hf, hq, hn4⟩
    have HE := Lib.hid (And.intro ho (And.intro hf (And.intro hq hn4)))
    clear ho hf hq hn4
    go_wp2_with fail
    go_ret
    exact ⟨u, out, rfl, HE.out.1, (fun g hg => Nat.le_trans H3.out.1.size (HE.out.2.1 g hg)), ⟨fun _ => ⟨q, this, rfl, HE.out.2.2.1⟩, fun h => absurd HV.out h⟩, H3.out.1.trans HE.out.2.2.2⟩

set_option maxRecDepth 100000 in
set_option maxHeartbeats 1000000 in
theorem specGroupsOf_any (p : Int) (v o : Value) (rows : List (List Int)) (own : List Int) (w : World) (hr : IsR w v rows) (ho : IsI w o own) :
    Calls Try.prog 31 #[.agg #[.int .i64 p, v, o]] w fun e w' => GivesI w e w' (GroupsR p rows own) := by
  obtain ⟨ao, n, cap, rfl, HN, hn⟩ := hr.shape
  obtain ⟨ay, m, cay, rfl, HM, hm⟩ := ho.shape
  have h1 : New w (w.alloc (.cells #[.int .i64 p, .slice ao n cap, .slice ay m cay] 43)) := New.alloc _ _
  have b1 := Blk3.alloc w (.int .i64 p) (.slice ao n cap) (.slice ay m cay) 43
  have HR := Lib.hid hr
  have HO := Lib.hid ho
  clear hr ho
  go_enter Try.func31, Try.ntmps31
  go_wp2_with fail
  refine (validScheme_any p _ _ rows own _ (HR.out.new h1) (HO.out.new h1)).mono ?_
  rintro e w2 ⟨b, rfl, hb, hn2⟩
  have H3 := Lib.hid (And.intro (h1.trans hn2) (b1.new hn2))
  have HB := Lib.hid hb
  clear h1 b1 hn2 hb
  obtain ⟨c0, c1, c2, _, _, _⟩ := H3.out.2.cells
  cases b with
  | false =>
    go_wp2_with fail
    go_ret
    exact givesNil H3.out.1 ⟨(fun h => by have := HB.out.2 h; cases this), fun _ => rfl⟩
  | true =>
    have hv := HB.out.1 rfl
    obtain ⟨q, rfl, hq⟩ := prime_nat (vtB_pr hv.1)
    haveI := hq.nz
    have HV := Lib.hid hv
    clear hv hq HB
    go_wp2_with fail
    refine (leastGroups_any q (gr rows 0).length _ _ rows own _ (HR.out.new H3.out.1) (HO.out.new H3.out.1) (vtB_ok HV.out.1) HV.out.2).mono ?_
    rintro e w4 ⟨u, out, rfl, ho, hf, hq, hn4⟩
    have HE := Lib.hid (And.intro ho (And.intro hf (And.intro hq hn4)))
    clear ho hf hq hn4
    go_wp2_with fail
    go_ret
    exact ⟨u, out, rfl, HE.out.1, (fun g hg => Nat.le_trans H3.out.1.size (HE.out.2.1 g hg)), ⟨fun _ => ⟨q, this, rfl, HE.out.2.2.1⟩, fun h => absurd HV.out h⟩, H3.out.1.trans HE.out.2.2.2⟩

set_option maxRecDepth 100000 in
set_option maxHeartbeats 1000000 in
theorem specTurnedGroups_any (p : Int) (v o : Value) (rows : List (List Int)) (own : List Int) (w : World) (hr : IsR w v rows) (ho : IsI w o own) :
    Calls Try.prog 43 #[.agg #[.int .i64 p, v, o]] w fun e w' => GivesI w e w' (TurnedR p rows own) := by
  obtain ⟨ao, n, cap, rfl, HN, hn⟩ := hr.shape
  obtain ⟨ay, m, cay, rfl, HM, hm⟩ := ho.shape
  have h1 : New w (w.alloc (.cells #[.int .i64 p, .slice ao n cap, .slice ay m cay] 43)) := New.alloc _ _
  have b1 := Blk3.alloc w (.int .i64 p) (.slice ao n cap) (.slice ay m cay) 43
  have HR := Lib.hid hr
  have HO := Lib.hid ho
  clear hr ho
  go_enter Try.func43, Try.ntmps43
  go_wp2_with fail
  refine (validScheme_any p _ _ rows own _ (HR.out.new h1) (HO.out.new h1)).mono ?_
  rintro e w2 ⟨b, rfl, hb, hn2⟩
  have H3 := Lib.hid (And.intro (h1.trans hn2) (b1.new hn2))
  have HB := Lib.hid hb
  clear h1 b1 hn2 hb
  obtain ⟨c0, c1, c2, _, _, _⟩ := H3.out.2.cells
  cases b with
  | false =>
    go_wp2_with fail
    go_ret
    exact givesNil H3.out.1 ⟨(fun h => by have := HB.out.2 h; cases this), fun _ => rfl⟩
  | true =>
    have hv := HB.out.1 rfl
    obtain ⟨q, rfl, hq⟩ := prime_nat (vtB_pr hv.1)
    haveI := hq.nz
    have HV := Lib.hid hv
    clear hv hq HB
    go_wp2_with fail
    refine (turnedGroups_any q (gr rows 0).length _ _ rows own _ (HR.out.new H3.out.1) (HO.out.new H3.out.1) (vtB_ok HV.out.1) HV.out.2).mono ?_
    rintro e w4 ⟨u, out, rfl, ho, hf, hq, hn4⟩
    have HE := Lib.hid (And.intro ho (And.intro hf (And.intro hq hn4)))
    clear ho hf hq hn4
    go_wp2_with fail
    go_ret
    exact ⟨u, out, rfl, HE.out.1, (fun g hg => Nat.le_trans H3.out.1.size (HE.out.2.1 g hg)), ⟨fun _ => ⟨q, this, rfl, HE.out.2.2.1⟩, fun h => absurd HV.out h⟩, H3.out.1.trans HE.out.2.2.2⟩
end Go.Proofs.Ytaaajekibfaoeaa

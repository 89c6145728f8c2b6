/- Hints of the program: what receivers have; the least rank of rows that fit. -/
import Derived.Deep.CutBlock
import Derived.Deep.DeepCutAuto
import Derived.Lib.MinMax
import Derived.Laws.EntriesVeiled
import Derived.Test.YtahgjfmdafhedaaHintS
import Derived.Test.YtahgjfmdafhedaaKnow
import Derived.Test.YtahgjfmdafhedaaLawK
import Derived.Test.YtahgjfmdafhedaaRedu
namespace Go.Proofs.Ytahgjfmdafhedaa
open Go.RowKit Mat
set_option linter.unusedVariables false

theorem mask_top : ∀ n : Nat, n < 5 → IntKind.i64.wrap (((2 ^ n : Nat) : Int) - 1) = ((2 ^ n : Nat) : Int) - 1 := by decide +kernel
set_option maxRecDepth 100000 in
set_option maxHeartbeats 2000000 in
theorem hintsOk_any (v : Value) (has : List Int) (w : World) (hx : IsI w v has) :
    Calls Try.prog 75 #[v] w fun e w' => SaysB e (HintsOk has) ∧ w = w' := by
  obtain ⟨ao, n, cap, rfl, HN, hn⟩ := hx.shape
  have HX := Lib.hid hx
  clear hx
  cases hb : inB (n : Int) 1 4 with
  | false =>
    have HB := Lib.hid hb
    clear hb
    go_enter Try.func75, Try.ntmps75
    go_wp2_with (go_at_call 37; refine (within_any _ _ _ _).mono ?_; rintro e w' ⟨rfl, rfl⟩; rw [HB.out])
    go_ret
    exact ⟨⟨false, rfl, ⟨(fun h => by cases h), fun h => by have h9 := (hints_iff.1 h).1; rw [← HN.out, HB.out] at h9; cases h9⟩⟩, rfl⟩
  | true =>
    have hn4 := inB_iff.1 hb
    have hw12 := wrap_pow n (by omega)
    have h16 : 2 ^ n ≤ 16 := two_pow_le (m := n) (n := 4) (by omega)
    have hp0 := Nat.two_pow_pos n
    obtain ⟨N, hNN⟩ : ∃ N, N = 2 ^ n := ⟨_, rfl⟩
    rw [← hNN] at hw12 h16 hp0
    have HB := Lib.hid hb
    have HNN := Lib.hid hNN
    have HI := Lib.hid (hints_iff (has := has))
    have hq := hints_top n (by omega)
    rw [← HN.out, hq, ← hNN] at HI
    clear hb hNN hq
    go_enter Try.func75, Try.ntmps75
    go_wp2_with (go_at_call 37; refine (within_any _ _ _ _).mono ?_; rintro e w' ⟨rfl, rfl⟩; rw [HB.out])
    go_loop [11] (fun t11 => ∃ i : Nat, t11 = .int .i64 i ∧ i ≤ n ∧ Hid (∀ j, j < i → inB (gi has j) 0 ((N : Int) - 1) = true ∧ bitN (hN has j) j = 0)) (fun t11 => n - (intOf t11).toNat)
    case atStart => exact ⟨0, rfl, Nat.zero_le _, fun j hj => by omega⟩
    case round =>
      obtain ⟨i, rfl, hi, HD⟩ := hrel
      by_cases hin : i < n
      · obtain ⟨b, o, rfl, ck⟩ := HX.out.at hin
        obtain ⟨x, hxe⟩ : ∃ x, gi has i = x := ⟨_, rfl⟩
        rw [hxe] at ck
        have HXE := Lib.hid hxe
        clear hxe
        cases hrb : inB x 0 ((N : Int) - 1) with
        | false =>
          have HRB := Lib.hid hrb
          clear hrb
          go_wp2_with (go_at_call 37; refine (within_any _ _ _ _).mono ?_; rintro e w' ⟨rfl, rfl⟩; rw [HRB.out])
          go_ret
          exact ⟨⟨false, rfl, ⟨(fun h => by cases h), fun h => by have h9 := ((HI.out.1 h).2 i hin).1; rw [HXE.out, HRB.out] at h9; cases h9⟩⟩, rfl⟩
        | true =>
          have hr := inB_iff.1 hrb
          obtain ⟨s, rfl⟩ : ∃ s : Nat, x = s := ⟨x.toNat, by omega⟩
          have HRB := Lib.hid hrb
          have hsN : hN has i = s := by unfold hN; rw [HXE.out]; simp
          have HSN := Lib.hid hsN
          have hbit := bits_bit s (by omega) i (by omega)
          clear hrb hsN
          rcases bit_vals s i with hb | hb
          · rw [hb] at hbit
            have HB := Lib.hid hb
            clear hb
            go_wp2_with (go_at_call 37; refine (within_any _ _ _ _).mono ?_; rintro e w' ⟨rfl, rfl⟩; rw [HRB.out])
            go_round
            case rel =>
              refine ⟨i + 1, by go_num, by omega, fun j hj => ?_⟩
              by_cases e : j = i
              · subst e; exact ⟨by rw [HXE.out]; exact HRB.out, by rw [HSN.out]; exact HB.out⟩
              · exact HD.out j (by omega)
            case measure => simp [intOf]; omega
          · rw [hb] at hbit
            have HB := Lib.hid hb
            clear hb
            go_wp2_with (go_at_call 37; refine (within_any _ _ _ _).mono ?_; rintro e w' ⟨rfl, rfl⟩; rw [HRB.out])
            go_ret
            exact ⟨⟨false, rfl, ⟨(fun h => by cases h), fun h => by have h9 := ((HI.out.1 h).2 i hin).2; rw [HSN.out, HB.out] at h9; cases h9⟩⟩, rfl⟩
      · obtain rfl : i = n := by omega
        go_wp2_with fail
        go_ret
        exact ⟨⟨true, rfl, ⟨fun _ => HI.out.2 ⟨HB.out, HD.out⟩, fun _ => rfl⟩⟩, rfl⟩

theorem may_wo : ∀ s : Nat, s < 16 → ∀ h : Nat, h < 16 → (wo s h = 0 ↔ s &&& h = s) := by decide +kernel

/-- What the closure has: the hints, the rows, the best so far and itself. -/
def fromV (s : Nat) : Value := .func (.func 76) #[] #[.pointer (some ⟨s, 0, none⟩), .pointer (some ⟨s + 3, 0, none⟩), .pointer (some ⟨s + 2, 0, none⟩), .pointer (some ⟨s + 4, 0, none⟩)]
structure Frm (w : World) (s n : Nat) (vh : Value) (has : List Int) (best : Nat) (vs : List Value) : Prop where
  hs : IsI w vh has
  hv : ∀ g, vh.ownBlock = some g → g < s
  bh : Blk1 w s vh 23
  bR : Blk1 w (s + 2) (.slice (some ⟨s + 1, 0, none⟩) n n) 26
  bb : Blk1 w (s + 3) (.int .i64 best) 3
  bf : Blk1 w (s + 4) (fromV s) 85
  ov : Own w 23 (.slice (some ⟨s + 1, 0, none⟩) n n) vs
/-- The first rows. -/
structure Pre (w : World) (s n i : Nat) (vs : List Value) (pre : List (List Int)) : Prop where
  len : pre.length = i
  vl : vs.length = n
  good : GoodRows ((2 : Nat) : Int) n pre
  inner : ∀ j, j < i → IsI w (gv vs j) (gr pre j)
  fr : ∀ j, j < i → From (s + 5) (gv vs j)
theorem Frm.new {w w' : World} {s n best : Nat} {vh : Value} {has : List Int} {vs : List Value} (h : Frm w s n vh has best vs) (hn : New w w') : Frm w' s n vh has best vs :=
  ⟨h.hs.new hn, h.hv, h.bh.new hn, h.bR.new hn, h.bb.new hn, h.bf.new hn, h.ov.new hn⟩
theorem Pre.new {w w' : World} {s n i : Nat} {vs : List Value} {pre : List (List Int)} (h : Pre w s n i vs pre) (hn : New w w') : Pre w' s n i vs pre :=
  ⟨h.len, h.vl, h.good, fun j hj => (h.inner j hj).new hn, h.fr⟩
/-- Only the rows and the best so far have turned. -/
def FrC (s : Nat) (w w' : World) : Prop := Chg (fun k => k = s + 1 ∨ k = s + 3) w w'
theorem FrC.trans {s : Nat} {a b c : World} (h : FrC s a b) (h' : FrC s b c) : FrC s a c := Chg.trans h h' (fun _ _ x => x) (fun _ _ x => x)
theorem FrC.new {s : Nat} {a b : World} (h : New a b) : FrC s a b := h.mono (fun _ _ x => x.elim)
theorem Pre.chg {w w' : World} {s n i : Nat} {vs : List Value} {pre : List (List Int)} (h : Pre w s n i vs pre) (hc : FrC s w w') : Pre w' s n i vs pre :=
  ⟨h.len, h.vl, h.good, fun j hj => (h.inner j hj).chg hc (fun g hg e => by have := h.fr j hj g hg; omega), h.fr⟩
theorem Pre.less {w : World} {s n i : Nat} {vs : List Value} {pre : List (List Int)} {row : List Int} (h : Pre w s n (i + 1) vs (pre ++ [row])) : Pre w s n i vs pre := by
  have hl : pre.length = i := by have := h.len; rw [List.length_append, List.length_singleton] at this; omega
  exact ⟨hl, h.vl, fun j hj => by have h9 := h.good j (by rw [List.length_append]; omega); rw [gr_snoc_lt hj] at h9; exact h9, fun j hj => by have h9 := h.inner j (by omega); rw [gr_snoc_lt (by omega)] at h9; exact h9, fun j hj => h.fr j (by omega)⟩
theorem Frm.isR {w : World} {s n best : Nat} {vh : Value} {has : List Int} {vs : List Value} {pre : List (List Int)} (h : Frm w s n vh has best vs) (hp : Pre w s n n vs pre) (hn : n ≤ 4) : IsR w (.slice (some ⟨s + 1, 0, none⟩) n n) pre :=
  (ShR.mk h.ov (by rw [hp.vl, hp.len]) (fun i hi => hp.inner i (by rw [← hp.len]; exact hi))).isR (by rw [hp.len]; unfold Mid; omega)
theorem Frm.best {w w' : World} {s n b b' : Nat} {vh : Value} {has : List Int} {vs : List Value} (h : Frm w s n vh has b vs) (hc : Chg (· = s + 3) w w') (hb : Blk1 w' (s + 3) (.int .i64 b') 3) : Frm w' s n vh has b' vs :=
  ⟨h.hs.chg hc (fun g hg e => by have := h.hv g hg; omega), h.hv, h.bh.chg hc (by omega), h.bR.chg hc (by omega), hb, h.bf.chg hc (by omega), h.ov.chg hc (fun g hg e => by simp [Value.ownBlock] at hg; omega)⟩
theorem Frm.rows {w w' : World} {s n b : Nat} {vh : Value} {has : List Int} {vs vs' : List Value} (h : Frm w s n vh has b vs) (hc : Chg (· = s + 1) w w') (ho : Own w' 23 (.slice (some ⟨s + 1, 0, none⟩) n n) vs') : Frm w' s n vh has b vs' :=
  ⟨h.hs.chg hc (fun g hg e => by have := h.hv g hg; omega), h.hv, h.bh.chg hc (by omega), h.bR.chg hc (by omega), h.bb.chg hc (by omega), h.bf.chg hc (by omega), ho⟩
theorem Frm.lt {w : World} {s n b : Nat} {vh : Value} {has : List Int} {vs : List Value} (h : Frm w s n vh has b vs) : s + 5 ≤ w.heap.size := h.bf.lt
/-- How the closure ends. -/
def FromPost (s n i : Nat) (vh : Value) (has : List Int) (pre : List (List Int)) (best : Nat) (w : World) (e : Ending) (w' : World) : Prop :=
  (∃ u, e = .returned u) ∧ ∃ vs', Frm w' s n vh has best vs' ∧ Pre w' s n i vs' pre ∧ FrC s w w'

set_option maxRecDepth 100000 in
set_option maxHeartbeats 4000000 in
theorem from_leaf (has : List Int) (hh : HintsOk has) (s : Nat) (vh : Value) (n best : Nat) (hn : n = has.length) (pre : List (List Int)) (vs : List Value) (w : World) (hf : Frm w s n vh has best vs) (hp : Pre w s n n vs pre) (hb : best ≤ n) :
    Calls Try.prog 76 #[.int .i64 n, .pointer (some ⟨s, 0, none⟩), .pointer (some ⟨s + 3, 0, none⟩), .pointer (some ⟨s + 2, 0, none⟩), .pointer (some ⟨s + 4, 0, none⟩)] w
      fun e w' => FromPost s n n vh has pre (min best (rk2 pre)) w e w' := by
  obtain ⟨ah, lh, ch, rfl, HLH, _⟩ := hf.hs.shape
  obtain rfl : lh = n := by rw [HLH.out, hn]
  have hn4 : lh ≤ 4 := by rw [hn]; exact hh.n4
  have hir := hf.isR hp hn4
  have HF := Lib.hid (And.intro hf (And.intro hp hir))
  have HNH := Lib.hid hn
  obtain ⟨c0, z0⟩ := hf.bh.cells
  obtain ⟨c1, z1⟩ := hf.bR.cells
  obtain ⟨c2, z2⟩ := hf.bb.cells
  have hp9 := hp.len
  clear hf hp hir hn HLH
  obtain ⟨r, hr⟩ : ∃ r, r = rk2 pre := ⟨_, rfl⟩
  rw [← hr]
  have hr4 : r ≤ 4 := by have h9 := (rk2_dim pre).le_rows pr2; rw [← hr, hp9] at h9; omega
  have HRK := Lib.hid hr
  clear hr hp9
  go_enter Try.func76, Try.ntmps76
  go_upto_region 1 with fail
  go_region_with (first | (go_at_call 77; refine (reduced_any 2 pr2 lh (by omega) _ pre _ (HF.out.2.2.new (New.drew _)) HF.out.2.1.good (by rw [HF.out.2.1.len]; omega)).mono ?_; rintro e w2 ⟨u, vs2, out, rfl, ho, hf2, hred, hn2⟩; have hrk := red_rk2 hred; rw [← HRK.out] at hrk; obtain ⟨a2, l2, k2, rfl, HL2, _, _⟩ := ho.outer.opened (by rw [ho.len, hrk]; unfold Mid; omega); obtain rfl : l2 = r := (by rw [HL2.out, ho.len, hrk]); have HR := Lib.hid (And.intro trivial ((New.drew w).trans hn2)); obtain ⟨d2, y2⟩ := (HF.out.1.bb.new HR.out.2).cells; obtain ⟨d1, y1⟩ := (HF.out.1.bR.new HR.out.2).cells; clear ho hf2 hred hn2 hrk HL2))
  all_goals
    go_wp2_with fail
    refine bodyPost_ret (results_none rfl _ _ _) rfl ?_
    have hcs : Chg (· = s + 3) w (w2.setCell ⟨s + 3, 0, none⟩ (.int .i64 (min (best : Int) (l2 : Int)))) := Chg.trans HR.out.2 (Chg.setCell _ _ _) (fun _ _ x => x.elim) (fun _ _ x => x)
    have hcc : FrC s w (w2.setCell ⟨s + 3, 0, none⟩ (.int .i64 (min (best : Int) (l2 : Int)))) := hcs.mono (fun _ _ x => .inr x)
    refine ⟨⟨_, rfl⟩, vs, HF.out.1.best hcs ?_, HF.out.2.1.chg hcc, hcc⟩
    rw [show ((min best l2 : Nat) : Int) = min (best : Int) (l2 : Int) by omega]
    exact (HF.out.1.bb.new HR.out.2).put _

theorem gv_put {vs : List Value} {k i : Nat} {y : Value} (hi : i < vs.length) : gv (vs.set k y) i = if k = i then y else gv vs i := by
  rw [gv_lt (by rw [List.length_set]; exact hi), List.getElem_set]
  split
  · rfl
  · rw [gv_lt hi]
theorem tab_put {n k : Nat} {z : Nat} (hk : k < n) : (tab n (fun j => if j < k then (bitN z j : Int) else 0)).set k (bitN z k : Int) = tab n (fun j => if j < k + 1 then (bitN z j : Int) else 0) :=
  ext_gi (by rw [List.length_set, tab_length, tab_length]) (fun i hi => by
    rw [List.length_set, tab_length] at hi
    rw [gi_set (by rw [tab_length]; exact hi), tab_get hi, tab_get hi]
    by_cases e : k = i
    · subst e; rw [if_pos rfl, if_pos (by omega)]
    · rw [if_neg e]
      by_cases c : i < k
      · rw [if_pos c, if_pos (by omega)]
      · rw [if_neg c, if_neg (by omega)])
set_option maxRecDepth 100000 in
set_option maxHeartbeats 8000000 in
theorem from_any (has : List Int) (hh : HintsOk has) (s : Nat) (vh : Value) (n : Nat) (hn : n = has.length) : ∀ (d i best : Nat) (pre : List (List Int)) (vs : List Value) (w : World), i + d = n → Frm w s n vh has best vs → Pre w s n i vs pre → best ≤ n →
    Calls Try.prog 76 #[.int .i64 i, .pointer (some ⟨s, 0, none⟩), .pointer (some ⟨s + 3, 0, none⟩), .pointer (some ⟨s + 2, 0, none⟩), .pointer (some ⟨s + 4, 0, none⟩)] w
      fun e w' => FromPost s n i vh has pre (min best (fitsF has n d pre)) w e w' := by
  intro d
  induction d with
  | zero =>
    intro i best pre vs w hi hf hp hb
    obtain rfl : i = n := by omega
    exact from_leaf has hh s vh i best hn pre vs w hf hp hb
  | succ d ih =>
    intro i best pre vs w hid hf hp hb
    have hin : i < n := by omega
    have hn4 : n ≤ 4 := by rw [hn]; exact hh.n4
    obtain ⟨ah, lh, ch, rfl, HLH, _⟩ := hf.hs.shape
    obtain rfl : lh = n := by rw [HLH.out, hn]
    have hib : i < has.length := by rw [← hn]; exact hin
    obtain ⟨bx, ox, ebx, ck0⟩ := hf.hs.at hin
    have hxv := hh.val hib
    have hxl := hh.lt hib
    obtain ⟨x, hxe⟩ : ∃ x, x = hN has i := ⟨_, rfl⟩
    rw [hxv, ← hxe] at ck0
    rw [← hxe, ← hn] at hxl
    subst ebx
    have h16 : 2 ^ lh ≤ 16 := two_pow_le (m := lh) (n := 4) hn4
    have hp0 := Nat.two_pow_pos lh
    have hw12 := wrap_pow lh (by omega)
    have hpi : 2 ^ i ≤ 8 := two_pow_le (m := i) (n := 3) (by omega)
    have hwi := wrap_pow i (by omega)
    obtain ⟨N, hNN⟩ : ∃ N, N = 2 ^ lh := ⟨_, rfl⟩
    rw [← hNN] at hxl h16 hp0 hw12
    obtain ⟨pm, hpe⟩ : ∃ pm, pm = 2 ^ i := ⟨_, rfl⟩
    rw [← hpe] at hpi hwi
    obtain ⟨f, hff⟩ : ∃ f : Nat → Nat, f = fun t => fitsF has lh d (pre ++ [hrow lh t pre.length]) := ⟨_, rfl⟩
    have hlen := hp.len
    have HX := Lib.hid (And.intro hn (And.intro hxe (And.intro hNN (And.intro hpe (And.intro hff hlen)))))
    have HF := Lib.hid (And.intro hf hp)
    have HIH := Lib.hid ih
    have hdi : ((i : Int) == (lh : Int)) = false := by simp; omega
    have hsz := hf.lt
    have hcf : ∀ (xs : Array Value) (w' : World), (callFunc 76 xs).run Try.prog w' = .ok (.enter 76 xs) w' := fun xs w' => by kernel_rfl
    have CK0 := Lib.hid ck0
    obtain ⟨c0, _⟩ := hf.bh.cells
    clear hf hp hn hxe hNN hpe hff hlen ih hxv HLH ck0
    go_enter Try.func76, Try.ntmps76
    go_wp2_with fail
    clear hdi c0
    go_loopw [21] (fun t21 wr => ∃ (t : Nat), t21 = .int .i64 t ∧ t ≤ N ∧ ∃ (b' : Nat) (vs' : List Value), b' ≤ lh ∧ Hid (Frm wr s lh (.slice (some ⟨bx, ox, none⟩) lh ch) has b' vs' ∧ Pre wr s lh i vs' pre ∧ b' = minTo f (mayB has i) best t ∧ FrC s w wr)) (fun t21 _ => N - (intOf t21).toNat)
    case atStart => exact ⟨0, rfl, Nat.zero_le _, best, vs, hb, HF.out.1, HF.out.2, rfl, Chg.refl _ _⟩
    case round =>
      obtain ⟨t, rfl, ht, b', vs', hb', HD⟩ := hrel
      obtain ⟨wv, hwv⟩ : ∃ wv : World, wv = wr := ⟨_, rfl⟩
      rw [← hwv] at HD
      rw [← hwv]
      clear hwv
      obtain ⟨c0, _⟩ := HD.out.1.bh.cells
      by_cases htN : t < N
      · obtain ⟨bb, oo, ebb, ck⟩ := HD.out.1.hs.at hin
        simp only [Option.some.injEq, Addr.mk.injEq, and_true] at ebb
        obtain ⟨rfl, rfl⟩ := ebb
        rw [hh.val (by rw [← HX.out.1]; exact hin), ← HX.out.2.1] at ck
        have hand := andNot_i64 t (by omega) x (by omega)
        have hmw := may_wo t (by omega) x (by omega)
        obtain ⟨y, hy⟩ : ∃ y, y = wo t x := ⟨_, rfl⟩
        rw [← hy] at hand hmw
        have HY := Lib.hid hmw
        clear hy hmw
        by_cases hy0 : y = 0
        · subst hy0
          have hmay : mayB has i t = true := mayB_iff.2 (by rw [← HX.out.2.1]; exact HY.out.1 rfl)
          have HMY := Lib.hid hmay
          have hor := or_i64 t (by omega) pm (by omega)
          have holt : t ||| pm < 16 := Nat.or_lt_two_pow (n := 4) (by omega) (by omega)
          obtain ⟨z, hz⟩ : ∃ z, z = t ||| pm := ⟨_, rfl⟩
          rw [← hz] at hor holt
          have HZ := Lib.hid hz
          clear hmay hz
          have hszv := HD.out.1.lt
          go_wp2_with (at_make; refine wpList_mk rfl _ _ _ rfl tyInt _ _ _ _ lh lh rfl rfl rfl rfl (Nat.le_refl _) (by omega) ?_; intro v3 w3 hv3 ho3 hn3 hs3; subst hv3; have HO3 := Lib.hid (And.intro ho3 (And.intro hn3 hs3)); clear ho3 hn3 hs3)
          clear hand ck c0
          go_loopw [36] (fun t36 wr => ∃ k : Nat, t36 = .int .i64 k ∧ k ≤ lh ∧ Hid (Own wr 3 (.slice (some ⟨wv.heap.size, 0, none⟩) lh lh) ((tab lh (fun j => if j < k then (bitN z j : Int) else 0)).map (Value.int .i64)) ∧ New wv wr)) (fun t36 _ => lh - (intOf t36).toNat)
          case atStart => exact ⟨0, rfl, Nat.zero_le _, by
            rw [show (tab lh (fun j => if j < 0 then (bitN z j : Int) else 0)) = List.replicate lh 0 from (tab_congr (fun j hj => if_neg (by omega))).trans (tab_zero lh), List.map_replicate]
            exact HO3.out.1, HO3.out.2.1⟩
          case round =>
            obtain ⟨k, rfl, hk, HQ⟩ := hrel
            obtain ⟨wy, hwy⟩ : ∃ wy : World, wy = wr := ⟨_, rfl⟩
            rw [← hwy] at HQ
            rw [← hwy]
            clear hwy
            by_cases hkn : k < lh
            · obtain ⟨ck1, fk1⟩ := HQ.out.1.cell (i := k) (by rw [List.length_map, tab_length]; exact hkn)
              have hbit := bits_bit z (by omega) k (by omega)
              go_wp2_with fail
              go_roundw
              case rel =>
                have hst := HQ.out.1.set k (.int .i64 (bitN z k : Int))
                rw [set_map_int, tab_put hkn] at hst
                exact ⟨k + 1, by go_num, by omega, hst, HQ.out.2.then (Chg.setCell _ _ _) (fun i hi => by rw [hi]; exact Nat.le_refl _)⟩
              case measure => simp [intOf]; omega
            · obtain rfl : k = lh := by omega
              have hrw : (tab k (fun j => if j < k then (bitN z j : Int) else 0)) = hrow k t pre.length := by
                rw [show hrow k t pre.length = tab k (fun j => (bitN (t ||| 2 ^ pre.length) j : Int)) from rfl, HX.out.2.2.2.2.2, ← HX.out.2.2.2.1, ← HZ.out]
                exact tab_congr (fun j hj => if_pos hj)
              have hro := HQ.out.1
              rw [hrw] at hro
              have HRW := Lib.hid (And.intro hro HQ.out.2)
              have hF := HD.out.1.new HQ.out.2
              have hP := HD.out.2.1.new HQ.out.2
              obtain ⟨c1, _⟩ := hF.bR.cells
              obtain ⟨c2, _⟩ := hF.bf.cells
              obtain ⟨c3, f3⟩ := hF.ov.cell (i := i) (by rw [hP.vl]; exact hin)
              have HFP := Lib.hid (And.intro hF hP)
              unfold fromV at c2
              clear hrw hro hF hP hor
              go_wp2_with fail
              obtain ⟨u, hu⟩ : ∃ u : Value, u = .slice (some ⟨wv.heap.size, 0, none⟩) k k := ⟨_, rfl⟩
              have hch : Chg (· = s + 1) wy (wy.setCell ⟨s + 1, i, none⟩ u) := Chg.setCell wy ⟨s + 1, i, none⟩ u
              have hF2 := HFP.out.1.rows hch (HFP.out.1.ov.set i u)
              have hP1 := HFP.out.2.chg (hch.mono (fun _ _ x => .inl x))
              have hui : IsI (wy.setCell ⟨s + 1, i, none⟩ u) u (hrow k t pre.length) := by
                rw [hu]
                refine (HRW.out.1.isI (by rw [hrow_length]; unfold Mid; omega)).chg (by rw [← hu]; exact hch) (fun g hg e => ?_)
                simp [Value.ownBlock] at hg
                omega
              have hP2 : Pre (wy.setCell ⟨s + 1, i, none⟩ u) s k (i + 1) (vs'.set i u) (pre ++ [hrow k t pre.length]) := by
                have hpl := HX.out.2.2.2.2.2
                refine ⟨by rw [List.length_append, hpl]; rfl, by rw [List.length_set]; exact hP1.vl, fun j hj => ?_, fun j hj => ?_, fun j hj g hg => ?_⟩
                · rw [List.length_append, List.length_singleton] at hj
                  by_cases e : j < pre.length
                  · rw [gr_snoc_lt e]; exact hP1.good j e
                  · rw [gr_snoc_eq (by omega)]; exact hrow_good _ _ _
                · by_cases e : j < i
                  · rw [gv_put (by rw [hP1.vl]; omega), if_neg (by omega), gr_snoc_lt (by omega)]; exact hP1.inner j e
                  · rw [gv_put (by rw [hP1.vl]; omega), if_pos (by omega), gr_snoc_eq (by omega)]; exact hui
                · by_cases e : j < i
                  · rw [gv_put (by rw [hP1.vl]; omega), if_neg (by omega)] at hg; exact hP1.fr j e g hg
                  · rw [gv_put (by rw [hP1.vl]; omega), if_pos (by omega), hu] at hg
                    simp [Value.ownBlock] at hg
                    omega
              have H5 := Lib.hid (And.intro hF2 (And.intro hP2 (FrC.trans (FrC.new HRW.out.2) (hch.mono (fun _ _ x => .inl x) : FrC s wy _))))
              rw [← hu]
              clear hF2 hP1 hP2 hui hch c1 c2 c3 f3
              refine (HIH.out (i + 1) b' _ _ _ (by omega) H5.out.1 H5.out.2.1 hb').mono ?_
              rintro e w6 ⟨⟨u6, rfl⟩, vs6, hF6, hP6, hC6⟩
              have H6 := Lib.hid (And.intro hF6 (And.intro hP6.less (HD.out.2.2.2.trans (H5.out.2.2.trans hC6))))
              clear hF6 hP6 hC6 hu
              go_wp2_with fail
              go_roundw
              case rel =>
                refine ⟨t + 1, by go_num, by omega, _, vs6, ?_, H6.out.1, H6.out.2.1, ?_, H6.out.2.2⟩
                · omega
                · rw [minTo, if_pos HMY.out, ← HD.out.2.2.1, HX.out.2.2.2.2.1]
              case measure => simp [intOf]; omega
        · have hd : ((y : Int) != 0) = true := by simp; omega
          have hmay : ¬ mayB has i t = true := fun h => hy0 (HY.out.2 (by rw [HX.out.2.1]; exact mayB_iff.1 h))
          have HMY := Lib.hid hmay
          clear hmay hy0
          go_wp2_with fail
          go_roundw
          case rel => exact ⟨t + 1, by go_num, by omega, b', vs', hb', HD.out.1, HD.out.2.1, by rw [minTo, if_neg HMY.out]; exact HD.out.2.2.1, HD.out.2.2.2⟩
          case measure => simp [intOf]; omega
      · obtain rfl : t = N := by omega
        go_wp2_with fail
        refine bodyPost_ret (results_none rfl _ _ _) rfl ?_
        refine ⟨⟨_, rfl⟩, vs', ?_, HD.out.2.1, HD.out.2.2.2⟩
        have he : min best (fitsF has lh (d + 1) pre) = b' := by
          rw [HD.out.2.2.1, minTo_from hb, HX.out.2.2.2.2.1, HX.out.2.2.1]
          show min best (minTo _ (mayB has pre.length) lh (2 ^ lh)) = _
          rw [HX.out.2.2.2.2.2]
        rw [he]
        exact HD.out.1

set_option maxRecDepth 100000 in
set_option maxHeartbeats 2000000 in
theorem specLeastSends_any (v : Value) (has : List Int) (w : World) (hx : IsI w v has) :
    Calls Try.prog 24 #[v] w fun e w' => TellsN w e w' (SendsR has) := by
  obtain ⟨ao, n, cap, rfl, HN, hn⟩ := hx.shape
  have HX := Lib.hid (And.intro hx (show has.length ≤ 1099511627776 by rw [← HN.out]; exact hn))
  clear hx
  go_enter Try.func24, Try.ntmps24
  go_wp2_with fail
  refine (validHints_any _ has _ HX.out.1 HX.out.2).mono ?_
  rintro e w1 ⟨⟨b, rfl, hb⟩, hn1⟩
  have HB := Lib.hid hb
  have H1 := Lib.hid hn1
  clear hb hn1
  cases b with
  | false =>
    go_wp2_with fail
    go_ret
    exact ⟨-1, rfl, ⟨(fun h => by have := HB.out.2 h; cases this), fun _ => rfl⟩, H1.out⟩
  | true =>
    have HH := Lib.hid (HB.out.1 rfl)
    clear HB
    go_wp2_with fail
    refine (fitsFrom_any has HH.out has.length _ _ [] _ (HX.out.1.new (H1.out.trans (New.alloc _ _))) ((ShR.empty (Own.empty _ _)).isR (by unfold Mid; simp)) (by simp) (fun i hi => by simp at hi)).mono ?_
    rintro e w2 ⟨rfl, hn2⟩
    have H2 := Lib.hid ((H1.out.trans (New.alloc _ _)).trans hn2)
    clear hn2
    go_wp2_with fail
    go_ret
    exact ⟨_, rfl, ⟨fun _ => rfl, fun h => absurd HH.out h⟩, H2.out⟩

/-- make([]T, n): one block more. -/
theorem wpList_mkE {P : Program} {w : World} {ops : Array Oper} {rest : List Oper} {o : Oper} {a : Act} {Q : Exit → Act → World → Prop} (hgd : o.guard = none) (l c : Operand) (t : TypeId) (ho : o.op = .makeSlice t l c)
    {e : TypeId} {z : Value} (T : OneTy P t e z) (kl kc : IntKind) (L C : Int) (n m : Nat) (hl : a.eval l = .int kl L) (hc : a.eval c = .int kc C) (hn : L = n) (hC : C = m) (hnm : n ≤ m) (hb : m ≤ 1099511627776)
    (h : ∀ v w', v = .slice (some ⟨w.heap.size, 0, none⟩) n m → Own w' e v (List.replicate n z) → New w w' → w'.heap.size = w.heap.size + 1 → wpList P ops Q rest (a.put o.dst v) w') :
    wpList P ops Q (o :: rest) a w := by
  subst hn hC
  obtain ⟨i, ht, hi, hz, hs, hby, hzc⟩ := T
  refine wpList_plain hgd fun K hK => ?_
  have hbig : i.bytes * m ≤ 281474976710656 := by have := Nat.mul_le_mul hby hb; omega
  have hr := run_make (P := P) w t e i z ht hi hz kl kc (n : Int) (m : Int) (by omega) (by omega) (Int.ofNat_le.2 hbig) (by omega)
  unfold Oper.wp execOp
  simp only [ho, Sem.run_bind, Sem.run_pure, Result.andThen_ok, hl, hc, hr]
  rw [Int.toNat_natCast, Int.toNat_natCast]
  refine hK _ _ (h _ _ rfl (.inr ⟨w.heap.size, m, madeCells z.cells (m * i.size), by rw [List.length_replicate], heap_alloc_new w _, by rw [List.length_replicate]; exact hnm, by simp only [maxLen]; omega, by simp only [madeCells, Array.size_map, Array.size_range, hs]; omega, ?_⟩) (New.alloc _ _) (World.size_alloc _ _))
  rw [hs, List.length_replicate, Nat.mul_one, made1 z hzc, List.take_replicate, Nat.min_eq_left hnm]

set_option maxRecDepth 100000 in
set_option maxHeartbeats 2000000 in
theorem implLeastSends_any (v : Value) (has : List Int) (w : World) (hx : IsI w v has) :
    Calls Try.prog 26 #[v] w fun e w' => TellsN w e w' (SendsR has) := by
  obtain ⟨ao, n, cap, rfl, HN, hn⟩ := hx.shape
  have hnal := New.alloc w (.cells #[.slice ao n cap] 23)
  have hb1 := Blk1.alloc w (.slice ao n cap) 23
  have hs1 : (w.alloc (.cells #[.slice ao n cap] 23)).heap.size = w.heap.size + 1 := World.size_alloc _ _
  obtain ⟨w1, hw1⟩ : ∃ w1, w1 = w.alloc (.cells #[.slice ao n cap] 23) := ⟨_, rfl⟩
  rw [← hw1] at hnal hb1 hs1
  have HX := Lib.hid (And.intro hx trivial)
  have H1 := Lib.hid (And.intro hnal (And.intro hb1 hs1))
  have HW1 := Lib.hid hw1
  obtain ⟨c0, _⟩ := hb1.cells
  clear hx hnal hb1 hs1 hw1
  go_enter Try.func26, Try.ntmps26
  go_upto_region 1 with fail
  rw [← HW1.out]
  go_wp2_with fail
  refine (hintsOk_any _ has _ (HX.out.1.new H1.out.1)).mono ?_
  rintro e w' ⟨⟨b, rfl, hb⟩, rfl⟩
  have HB := Lib.hid hb
  clear hb
  cases b with
  | false =>
    go_wp2_with fail
    go_ret
    exact ⟨-1, rfl, ⟨(fun h => by have := HB.out.2 h; cases this), fun _ => rfl⟩, H1.out.1⟩
  | true =>
    have hh := HB.out.1 rfl
    have hn4 : n ≤ 4 := by rw [HN.out]; exact hh.n4
    have hn1 : 0 < n := by rw [HN.out]; exact hh.n1
    have hvb : ∀ g, (Value.slice ao n cap).ownBlock = some g → g < w.heap.size := fun g hg => by
      obtain ⟨b, o, rfl, ck⟩ := HX.out.1.at hn1
      have h9 := World.block_lt_of_cell? w _ ck
      simp [Value.ownBlock] at hg
      simp only at h9
      omega
    have HH := Lib.hid (And.intro hh hvb)
    clear HB hh hvb
    have hs1 := H1.out.2.2
    go_wp2_with (at_make; refine wpList_mkE rfl _ _ _ rfl tyRow _ _ _ _ n n rfl rfl rfl rfl (Nat.le_refl _) (by omega) ?_; intro v3 w3 hv3 ho3 hn3 hs3; subst hv3; rw [hs1] at ho3 hs3; rw [hs1]; have hlt3 : w.heap.size < w3.heap.size := (by omega); obtain ⟨d0, y0⟩ := (H1.out.2.1.new hn3).cells; have HO3 := Lib.hid (And.intro ho3 (And.intro hn3 hs3)); clear ho3 hn3)
    clear hs1
    obtain ⟨wE, hwE⟩ : ∃ wE, wE = ((w3.alloc (.cells #[.slice (some ⟨w.heap.size + 1, 0, none⟩) n n] 26)).alloc (.cells #[.int .i64 n] 3)).alloc (.cells #[fromV w.heap.size] 85) := ⟨_, rfl⟩
    have e1 : (w3.alloc (.cells #[.slice (some ⟨w.heap.size + 1, 0, none⟩) n n] 26)).heap.size = w.heap.size + 3 := by rw [World.size_alloc, HO3.out.2.2]
    have e2 : ((w3.alloc (.cells #[.slice (some ⟨w.heap.size + 1, 0, none⟩) n n] 26)).alloc (.cells #[.int .i64 n] 3)).heap.size = w.heap.size + 4 := by rw [World.size_alloc, e1]
    have nA := New.alloc w3 (.cells #[.slice (some ⟨w.heap.size + 1, 0, none⟩) n n] 26)
    have nB := New.alloc (w3.alloc (.cells #[.slice (some ⟨w.heap.size + 1, 0, none⟩) n n] 26)) (.cells #[.int .i64 n] 3)
    have nC := New.alloc ((w3.alloc (.cells #[.slice (some ⟨w.heap.size + 1, 0, none⟩) n n] 26)).alloc (.cells #[.int .i64 n] 3)) (.cells #[fromV w.heap.size] 85)
    have bA := Blk1.alloc w3 (.slice (some ⟨w.heap.size + 1, 0, none⟩) n n) 26
    have bB := Blk1.alloc (w3.alloc (.cells #[.slice (some ⟨w.heap.size + 1, 0, none⟩) n n] 26)) (.int .i64 n) 3
    have bC := Blk1.alloc ((w3.alloc (.cells #[.slice (some ⟨w.heap.size + 1, 0, none⟩) n n] 26)).alloc (.cells #[.int .i64 n] 3)) (fromV w.heap.size) 85
    rw [HO3.out.2.2] at bA
    rw [e1] at bB
    rw [e2] at bC
    have nE : New w3 wE := by rw [hwE]; exact (nA.trans nB).trans nC
    have hfr : Frm wE w.heap.size n (.slice ao n cap) has n (List.replicate n (.slice none 0 0)) :=
      ⟨HX.out.1.new (H1.out.1.trans (HO3.out.2.1.trans nE)), HH.out.2, H1.out.2.1.new (HO3.out.2.1.trans nE), by rw [hwE]; exact (bA.new nB).new nC, by rw [hwE]; exact bB.new nC, by rw [hwE]; exact bC, HO3.out.1.new nE⟩
    have hpr : Pre wE w.heap.size n 0 (List.replicate n (.slice none 0 0)) [] := ⟨rfl, List.length_replicate, fun i hi => by simp at hi, fun j hj => by omega, fun j hj => by omega⟩
    have HFE := Lib.hid (And.intro hfr (And.intro hpr (HO3.out.2.1.trans nE)))
    have HWE := Lib.hid hwE
    obtain ⟨k3, _⟩ := hfr.bb.cells
    clear e1 e2 nA nB nC bA bB bC nE hfr hpr hwE
    have hcf : ∀ (xs : Array Value) (w' : World), (callFunc 76 xs).run Try.prog w' = .ok (.enter 76 xs) w' := fun xs w' => by kernel_rfl
    clear k3
    go_wp2_with fail
    refine (from_any has HH.out.1 w.heap.size (.slice ao n cap) n HN.out n 0 n [] (List.replicate n (.slice none 0 0)) _ (by omega) (by have h9 := HFE.out.1; rw [HWE.out] at h9; exact h9) (by have h9 := HFE.out.2.1; rw [HWE.out] at h9; exact h9) (Nat.le_refl _)).mono ?_
    rintro e w6 ⟨⟨u6, rfl⟩, vs6, hF6, hP6, hC6⟩
    obtain ⟨k3, _⟩ := hF6.bb.cells
    have H6 := Lib.hid (And.intro hF6 hC6)
    clear hF6 hP6 hC6
    rw [show min n (fitsF has n n []) = fitsF has n n [] from Nat.min_eq_right (fits_top (by omega))] at k3
    go_wp2_with fail
    go_ret
    have h9 := H1.out.1.trans HFE.out.2.2
    rw [HWE.out] at h9
    exact ⟨_, rfl, ⟨fun _ => by rw [← HN.out], fun h => absurd HH.out.1 h⟩, h9.then H6.out.2 (fun i hi => by omega)⟩
end Go.Proofs.Ytahgjfmdafhedaa

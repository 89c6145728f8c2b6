/- THE LAW: FnExactRunDesk returns true for all lines: the program's answers are the reference's, and the lines are left alone. -/
import Derived.Test.YtcdbeepphdfipaaGreatDoorLawS
import Derived.Test.YtcdbeepphdfipaaGreatDoorLaidV
import Derived.Lib.SmallJoins
namespace Go.Proofs.YtcdbeepphdfipaaGreatDoor
open Go.ChangeShapes Go.WideShapes Go.ChangeAt Go.WideMaps Go.WideElems Go.RowKit Go.Joins Go.ChangeMaps
set_option linter.unusedVariables false

set_option maxRecDepth 100000 in
set_option maxHeartbeats 4000000 in
theorem exactRunDesk_any (v : Value) (ls : List (List UInt8)) (w : World) (hs : IsS w v ls) (hz : ∀ i, (ls.getD i []).length ≤ 9223372036854775807) (hv : ErrV w) (hm : MaxV w) :
    Calls Tryz.prog 6 #[v] w fun e w' => e = .returned (.bool true) ∧ New w w' := by
  obtain ⟨ao, n, cap, rfl, HN⟩ := hs.shape
  have HS := Lib.hid hs
  have HV := Lib.hid (And.intro hv hm)
  have KZ := Lib.hid (szStringS_any _ ls w hs hz)
  clear hs hz hv hm
  go_enter Tryz.func6, Tryz.ntmps6
  go_wp2_with fail
  refine KZ.out.mono ?_
  rintro e w1 ⟨⟨r, rfl, hr⟩, rfl⟩
  by_cases hneg : r < 0
  · go_wp2_with fail
    go_ret
    exact ⟨rfl, Chg.refl _ _⟩
  · have hsm : ls.length ≤ 1048576 ∧ Fit ls := by
      rcases hr with h | ⟨h1, h2⟩
      · exact absurd h hneg
      · refine ⟨h1, fun i => ?_⟩
        by_cases hi : i < ls.length
        · exact Nat.le_trans (h2 i hi) (by decide)
        · rw [List.getD_eq_getElem?_getD, List.getElem?_eq_none (by omega)]; simp
    have HM := Lib.hid hsm
    clear hsm hr
    go_wp2_with fail
    refine (toStringS_any _ ls _ HS.out HM.out.1).mono ?_
    rintro e w2 ⟨u2, rfl, ho2, hf2, hn2⟩
    have H2 := Lib.hid (And.intro (isS_of_own ho2) hn2)
    obtain ⟨a2, n2, c2, rfl, _⟩ := H2.out.1.shape
    clear ho2 hf2 hn2
    go_wp2_with fail
    refine (specRunDesk_any _ ls _ H2.out.1 HM.out.2 (by have := HM.out.1; omega)).mono ?_
    rintro e w3 ⟨t, rfl, ht, hn3⟩
    have H3 := Lib.hid (And.intro ht (H2.out.2.trans hn3))
    clear ht hn3
    obtain ⟨T, hT⟩ : ∃ T, T = bs t := ⟨_, rfl⟩
    rw [← hT]
    have HT := Lib.hid hT
    clear hT
    go_wp2_with fail
    refine (toStringS_any _ ls _ (HS.out.new H3.out.2) HM.out.1).mono ?_
    rintro e w4 ⟨u4, rfl, ho4, hf4, hn4⟩
    have H4 := Lib.hid (And.intro (isS_of_own ho4) (H3.out.2.trans hn4))
    obtain ⟨a4, n4, c4, rfl, _⟩ := H4.out.1.shape
    clear ho4 hf4 hn4
    go_wp2_with fail
    refine (implRunDesk_any _ ls _ H4.out.1 HM.out.2 (by have := HM.out.1; omega) (HV.out.1.new H4.out.2) (HV.out.2.new H4.out.2)).mono ?_
    rintro e w5 ⟨t5, rfl, ht5, hn5⟩
    obtain rfl : t5 = t := ht5.unique H3.out.1
    rw [← HT.out]
    have H5 := Lib.hid (And.intro (H4.out.1.new hn5) (H4.out.2.trans hn5))
    clear ht5 hn5
    go_wp2_with fail
    refine (toStringS_any _ ls _ (HS.out.new H5.out.2) HM.out.1).mono ?_
    rintro e w6 ⟨u6, rfl, ho6, hf6, hn6⟩
    have H6 := Lib.hid (And.intro (isS_of_own ho6) (And.intro (H5.out.1.new hn6) (H5.out.2.trans hn6)))
    obtain ⟨a6, n6, c6, rfl, _⟩ := H6.out.1.shape
    clear ho6 hf6 hn6
    go_wp2_with fail
    refine (eqStringS_yes _ _ ls _ H6.out.2.1 H6.out.1 HM.out.1).mono ?_
    rintro e w7 ⟨rfl, hn7⟩
    have H7 := Lib.hid (H6.out.2.2.trans hn7)
    clear hn7
    go_wp2_with fail
    go_ret
    exact ⟨rfl, H7.out⟩

theorem cellsStr : Tryz.prog.cellsOf 9 = 1 := by kernel_rfl
theorem bs_back (s : ByteArray) : bs s.data.toList = s := by cases s; simp [bs]
theorem isS_of_trod {H : Type} {enc : TypeId × Value → H} {w : World} {base : Nat} {held : Bool} {fuel : Nat} {ao : Option Addr} {len cap : Nat} {x : DataW H × List MemPlace}
    (h : DataW.trod enc Tryz.prog w base (fun _ => true) held fuel 36 (Value.slice ao len cap).cells.toList = some x) :
    ∃ ls : List (List UInt8), IsS w (.slice ao len cap) ls ∧ ∀ i, (ls.getD i []).length ≤ 9223372036854775807 := by
  rcases Deep.open_strs Tryz.underlying36 Tryz.underlying9 cellsStr h with ⟨hcs, _⟩ | ⟨a, len', cap', m, Sx, hcs, _, hl, hmx, hm, _, hcell⟩
  · simp [Value.cells] at hcs
    obtain ⟨rfl, rfl, rfl⟩ := hcs
    exact ⟨[], ⟨none, 0, rfl, by simp, by simp [maxLen], fun i hi => by simp at hi⟩, fun i => by rw [List.getD_eq_getElem?_getD, List.getElem?_eq_none (Nat.zero_le _)]; exact Nat.zero_le _⟩
  · simp [Value.cells] at hcs
    obtain ⟨rfl, rfl, rfl⟩ := hcs
    rw [if_pos rfl] at hm
    refine ⟨(List.range len).map (fun i => (Sx i).data.toList), ⟨some a, cap, by simp, ⟨by simpa using hl, by simp⟩, hmx, fun i hi => ?_⟩, fun i => ?_⟩
    · simp at hi
      obtain ⟨b, o, sp⟩ := a
      have h0 := (hcell 0 (by omega)).1
      have : sp = none := by simpa [Addr.add] using World.cell?_spot h0
      subst this
      have h1 := (hcell i (by omega)).1
      rw [Addr.add_lit] at h1
      refine ⟨b, o, rfl, ?_⟩
      rw [getD_lt (by simpa using hi)]
      simp only [List.getElem_map, List.getElem_range]
      rw [bs_back]
      exact h1
    · by_cases hi : i < len
      · rw [getD_lt (by simpa using hi)]
        simp only [List.getElem_map, List.getElem_range]
        have h1 := (hcell i (by omega)).2
        have h2 : (Sx i).data.toList.length = (Sx i).size := by rw [Array.length_toList]; rfl
        rw [h2]
        unfold maxLen at h1
        omega
      · rw [List.getD_eq_getElem?_getD, List.getElem?_eq_none (by simpa using hi)]; exact Nat.zero_le _

/-- What the row lists, and the world's shape beside it. -/
theorem returns_listed_shaped {H : Type} {enc : TypeId × Value → H} {a : Assume} {C : Checked} {os : Os} {f : FuncId} {fn : Func} {s : ChangeSpec} {conds : List PathCond} {apart fresh handsOn again : Bool} {X : World → Array Value → Prop}
    (hX : ∀ (w w' : World) (args : Array Value), w.heap = w'.heap → X w args → X w' args)
    (own : ownKnob C.prog.godebug = none) (started : os.Started) (noInit : C.prog.inits.idxOf? f = none) (hfn : C.prog.funcs[f]? = some fn)
    (witness : ∃ (w : World) (tape : Tape) (i : Input), w.os = os ∧ (w.forCall tape i).Shaped C.prog ∧ i.vars = [] ∧ Input.okWide C.prog (w.forCall tape i) .any w.heap.size f i ∧
      ((s.pre enc C.prog fn conds apart (w.forCall tape i).memory i.args ∧ X (w.forCall tape i).memory i.args) ∧ sizedMet enc C.prog fn (OpenSpec.ofChange s) apart (w.forCall tape i).memory i.args) ∧ a.holds C.prog (lone (Frame.enter C.prog f i.args .normal) [] (w.forCall tape i)))
    (contract : ∀ (W : World) (base : Nat) (args : Array Value) (ds gs : List (DataW H)) (before : List MemPlace),
      (∀ (j : Nat) t v, fn.params[j]? = some t → args[j]? = some v → Value.okWide C.prog W .any base t v) →
      DataW.Whole enc C.prog fn.params.toList s.vars apart W args.toList ds gs before → X W args → W.ShapedOpen C.prog →
      Calls C.prog f args W fun e W' => ∃ v, e = .returned v ∧ s.post enc C.prog fn apart fresh handsOn again W args v W') :
    ReturnsInHanded a C os f .any (fun w args => (s.pre enc C.prog fn conds apart w args ∧ X w args) ∧ sizedMet enc C.prog fn (OpenSpec.ofChange s) apart w args) (s.post enc C.prog fn apart fresh handsOn again) := by
  refine returnsInHanded_of_calls own started noInit witness ?_
  intro w tape i _ hsh _ hok hpre _
  obtain ⟨_, _, _, fn', hfn', _, _, _, _, hval⟩ := hok
  obtain rfl : fn' = fn := Option.some.inj (hfn'.symm.trans hfn)
  obtain ⟨⟨⟨ds, gs, before, hw, _⟩, hx⟩, _⟩ := hpre
  have hw' := DataW.Whole.of_heap (w' := w.forCall tape i) (by rfl) hw
  refine (contract (w.forCall tape i) w.heap.size i.args ds gs before hval hw' (hX _ _ _ (by rfl) hx) hsh).mono fun e W' ⟨v, he, hp⟩ => ?_
  subst he
  exact ChangeSpec.post_blind hp

theorem maxV_of {W : World} (h : W.ShapedOpen Tryz.prog) : MaxV W := Tryz.laysM146.s1_3 W h

set_option maxRecDepth 100000 in
theorem exactRunDesk_lifted (os : Os) (started : os.Started) (H : Type) (enc : TypeId × Value → H) :
    ReturnsInHanded {} Tryz.checked os 6 .any (fun w args => (Rows.fnExactRunDeskSpec.pre enc Tryz.prog Tryz.f6 [] false w args ∧ laidMetH Tryz.prog Rows.fnExactRunDeskRow.laid w) ∧ sizedMet enc Tryz.prog Tryz.f6 (OpenSpec.ofChange Rows.fnExactRunDeskSpec) false w args)
      (Rows.fnExactRunDeskSpec.post enc Tryz.prog Tryz.f6 false true false false) := by
  refine returns_listed_shaped (C := Tryz.checked) (X := fun w _ => laidMetH Tryz.prog Rows.fnExactRunDeskRow.laid w) (fun _ _ _ hh h => h.of_heap hh) own started (by kernel_rfl) Tryz.func6
    (ChangeSpec.witness_shaped (enc := enc) (C := Tryz.checked) (os := os) (X := fun w _ => laidMetH Tryz.prog Rows.fnExactRunDeskRow.laid w) false (World.laidAll Tryz.prog os laidL) #[.slice none 0 0] 8 (World.laidAll_os _ _ _)
      (laid_shaped os _) (by kernel_rfl) (by kernel_rfl) (by kernel_rfl) (laid_met os _)) ?_
  intro W base args ds gs before hval0 hW hL hsh
  have hval : ∀ (j : Nat) t v, Tryz.f6.params[j]? = some t → args[j]? = some v → Value.okWide Tryz.prog W .any base t v := hval0
  have hW' := hW
  obtain ⟨p, q, hA0, hV, rfl, hfz, hnd⟩ := hW
  have hA : DataW.TrodAll enc Tryz.prog W 0 (fun _ => true) true Tryz.f6.params.toList args.toList ds p := hA0
  rw [Tryz.params6] at hA hval
  obtain ⟨v0, vs0, d0, ds0, pl0, q0, hargs, rfl, rfl, h0, r0⟩ := trodAll_cons hA
  obtain ⟨rfl, rfl, rfl⟩ := trodAll_nil r0
  obtain rfl : args = #[v0] := by cases args; simp_all
  obtain ⟨rfl, rfl⟩ := trodVars_none hV
  obtain ⟨a0, len0, cap0, rfl⟩ := okWide_slice Tryz.underlying36 (hval 0 36 v0 rfl rfl)
  have k0 := h0
  have lt0 : ∀ x ∈ pl0, x.block < W.heap.size := by obtain ⟨m, hm⟩ := k0; exact DataW.trod_lt m _ _ _ hm
  obtain ⟨ls, hls, hzs⟩ : ∃ ls : List (List UInt8), IsS W (.slice a0 len0 cap0) ls ∧ ∀ i, (ls.getD i []).length ≤ 9223372036854775807 := by
    obtain ⟨fuel, hf⟩ := h0
    exact isS_of_trod hf
  clear hA0 hval0
  refine (exactRunDesk_any _ ls W hls hzs (errV_of_laid hL) (maxV_of hsh)).mono fun e W' ⟨he, hnew⟩ => ?_
  subst he
  have bel := hnew.below
  exact ⟨_, rfl, _, _, _, [], _, [], hW', trodAll_mk1 (shut_bool Tryz.underlying4 _), (trodAll_cons_mk (Below.trod laidOut (by kernel_rfl) (of_decide_eq_true (by kernel_rfl)) k0 bel lt0) trodAll_mk0), rfl, bel.frame _, fun h => by cases h⟩

theorem exactRunDesk_holds : Rows.FnExactRunDeskSaid :=
  OpenClaim.holds_of_wide 6 Tryz.f6 rfl rfl rfl rfl rfl rfl rfl ⟨rfl, rfl, rfl, rfl, rfl⟩ rfl rfl rfl rfl rfl (by kernel_rfl) Tryz.func6 (by kernel_rfl)
    (of_decide_eq_true (by kernel_rfl)) (by unfold Func.isWrapper; first | (rw [if_pos (by decide +kernel)]; kernel_rfl) | (rw [if_neg (by decide +kernel)]; exact ⟨rfl, rfl⟩))
    (fun os started H enc _ => exactRunDesk_lifted os started H enc)
#print axioms exactRunDesk_holds
end Go.Proofs.YtcdbeepphdfipaaGreatDoor

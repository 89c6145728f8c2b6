/- What the desk's answers are made of: no newline; the first answers are those to the first lines. A law whose row lists variables, of the world whose shape is told. The walk of FnRunDesk. THE LAW: FnRunDesk returns true for all bytes, where the listed variables hold what the text lays. -/
import Derived.Test.YtcdbeepphdfipaaGreatDoorAnsP
import Derived.Test.YtcdbeepphdfipaaGreatDoorLaidV
import Derived.Test.YtcdbeepphdfipaaGreatDoorBytes
import Derived.Test.YtcdbeepphdfipaaGreatDoorDesk
import Derived.Lib.SmallJoins
import Derived.Test.YtcdbeepphdfipaaGreatDoorLawS
import Derived.Test.YtcdbeepphdfipaaGreatDoorDrwH
namespace Go.Proofs.YtcdbeepphdfipaaGreatDoor
set_option linter.unusedVariables false

theorem digB_10 {x : Int} (h9 : x ≤ 9) : digB x ≠ 10 := by
  by_cases h0 : 0 ≤ x
  · have h : x = 0 ∨ x = 1 ∨ x = 2 ∨ x = 3 ∨ x = 4 ∨ x = 5 ∨ x = 6 ∨ x = 7 ∨ x = 8 ∨ x = 9 := by omega
    rcases h with rfl | rfl | rfl | rfl | rfl | rfl | rfl | rfl | rfl | rfl <;> decide
  · unfold digB
    rw [show x.toNat = 0 by omega]
    decide
theorem rowT_10 {r : List Int} (h : ∀ i, i < r.length → gi r i ≤ 9) : (10 : UInt8) ∉ rowT r := by
  intro hm
  obtain ⟨x, hx, e⟩ := List.mem_map.1 hm
  obtain ⟨i, hi, rfl⟩ := List.getElem_of_mem hx
  have h1 := h i hi
  rw [gi_lt hi] at h1
  exact digB_10 h1 e
theorem rowsTo_10 {rows : List (List Int)} (h : ∀ i k, i < rows.length → k < (gr rows i).length → gi (gr rows i) k ≤ 9) : ∀ k, k ≤ rows.length → (10 : UInt8) ∉ rowsTo rows k
  | 0, _ => by simp [rowsTo]
  | k + 1, hk => by
    have h1 := rowsTo_10 h k (by omega)
    have h2 := rowT_10 (r := gr rows k) (fun i hi => h k i (by omega) hi)
    intro hm
    rw [rowsTo, List.mem_append, List.mem_append] at hm
    rcases hm with (hm | hm) | hm
    · exact h1 hm
    · split at hm <;> simp at hm
    · exact h2 hm
theorem codeT_10 {p : Int} {rows : List (List Int)} (h : ValidC p rows) : (10 : UInt8) ∉ codeT p rows := by
  obtain ⟨hp, hd, _⟩ := h.digs
  intro hm
  rw [codeT, List.mem_cons, List.mem_cons] at hm
  rcases hm with hm | hm | hm
  · exact digB_10 hp.2 hm.symm
  · exact absurd hm (by decide)
  · exact rowsTo_10 (fun i k hi hk => (hd i k hi hk).2) _ (Nat.le_refl _) hm
/-- No answer holds a newline. -/
theorem AnsW.no10 {ws : List (List UInt8)} {t : List UInt8} (h : AnsW ws t) : (10 : UInt8) ∉ t := by
  by_cases c1 : IsOne ws
  · obtain ⟨p, rows, ok, h1, h2, h3⟩ := h.one c1
    cases ok with
    | false => rw [h2 rfl]; decide
    | true =>
      have hv := (h1.1 rfl).1
      rcases c1.2 with hc | hc | hc
      · obtain ⟨d, hd, rfl⟩ := (h3 rfl).1 hc
        obtain ⟨n, rfl, _, hn, _⟩ := hd.1 hv
        have h7 := hv.digs.2.2.2.2 0 (by have := hv.digs.2.2.1; omega)
        intro hm
        rw [List.mem_singleton] at hm
        exact digB_10 (by omega) hm.symm
      · by_cases x : IsBestC p rows
        · rw [((h3 rfl).2.1 hc).1 x]; decide
        · rw [((h3 rfl).2.1 hc).2 x]; decide
      · obtain ⟨p', out, _, k⟩ := (h3 rfl).2.2 hc
        by_cases x : ValidC p' out
        · rw [bs_inj (k.1 x)]; exact codeT_10 x
        · rw [bs_inj (k.2 x)]; simp
  · by_cases c2 : IsTwo ws
    · obtain ⟨p, rows, ok, h1, h2, h3⟩ := h.two c2
      cases ok with
      | false => rw [h2 rfl]; decide
      | true =>
        have hv := (h1.1 rfl).1
        have hp := hv.digs.1
        have hpp := hv.prime
        rcases c2.2 with hc | hc
        · by_cases x : MsgC p rows (sUn (ws.getD 2 []))
          · rw [((h3 rfl).1 hc).1 x]
            refine rowT_10 (fun i hi => ?_)
            rw [encZ_length] at hi
            have := (encZ_range (p := p) (by omega) (sUn (ws.getD 2 [])) (Nat.le_of_eq x.2.1) hv.rowsOk hi).2
            omega
          · rw [((h3 rfl).1 hc).2 x]; decide
        · by_cases x : LostC p rows (sUn (ws.getD 2 []))
          · obtain ⟨out, ok, k1, k2, k3⟩ := ((h3 rfl).2 hc).2 x
            cases ok with
            | false => rw [k3 rfl]; decide
            | true =>
              rw [k2 rfl]
              by_cases y : LostC p rows (sUn (ws.getD 2 [])) ∧ cntOf p rows (sUn (ws.getD 2 [])) = 1
              · obtain ⟨_, t', _, _, rfl⟩ := k1.1 y
                refine rowT_10 (fun i hi => ?_)
                rw [msg_length] at hi
                have := (msg_good (q := p.toNat) (k := rows.length) (t := t') (by omega)).2 i hi
                omega
              · rw [(k1.2 y).2]; simp [rowT]
          · rw [((h3 rfl).2 hc).1 x]; decide
    · rw [h.none c1 c2]; decide

theorem deskTo_append : ∀ (a b : List (List UInt8)), deskTo (a ++ b) = deskTo a ++ deskTo b
  | [], b => rfl
  | x :: a, b => by simp [deskTo, deskTo_append a b]
theorem deskTo_count : ∀ (an : List (List UInt8)), (∀ a ∈ an, (10 : UInt8) ∉ a) → (deskTo an).count 10 = an.length
  | [], _ => rfl
  | a :: l, h => by
    have h1 := deskTo_count l (fun x hx => h x (List.mem_cons_of_mem _ hx))
    have h2 := List.count_eq_zero_of_not_mem (h a (List.mem_cons_self ..))
    simp only [deskTo, List.count_append, h1, h2, List.length_cons]
    simp
    omega
theorem AnsL.no10 {lines : List (List UInt8)} {k : Nat} {an : List (List UInt8)} (h : AnsL lines k an) : ∀ a ∈ an, (10 : UInt8) ∉ a := fun a ha => by
  obtain ⟨i, hi, rfl⟩ := List.getElem_of_mem ha
  have h3 := h.2 i (by rw [← h.1]; exact hi)
  rw [List.getD_eq_getElem?_getD (l := an), List.getElem?_eq_getElem hi] at h3
  exact h3.no10
theorem getD_take {ls : List (List UInt8)} {i k : Nat} (h : i < k) : (ls.take k).getD i [] = ls.getD i [] := by
  rw [List.getD_eq_getElem?_getD, List.getD_eq_getElem?_getD, List.getElem?_take, if_pos h]
theorem AnsL.upto {lines : List (List UInt8)} {n k : Nat} {an : List (List UInt8)} (h : AnsL lines n an) (hk : k ≤ n) : AnsL (lines.take k) k (an.take k) :=
  ⟨by rw [List.length_take, h.1]; omega, fun i hi => by rw [getD_take hi, getD_take hi]; exact h.2 i (by omega)⟩
/-- The answers to the first lines are the first answers. -/
theorem DeskR.early {ls : List (List UInt8)} {t u : List UInt8} {k : Nat} (h : DeskR ls t) (hl : ls.length ≤ 20) (hk : k ≤ ls.length) (g : DeskR (ls.take k) u) : ∃ v, t = u ++ v := by
  obtain ⟨an, h1, rfl⟩ := h.2 hl
  have hlen : (ls.take k).length = k := by rw [List.length_take]; omega
  obtain ⟨bn, g1, rfl⟩ := g.2 (by omega)
  rw [hlen] at g1
  rw [g1.unique (h1.upto hk)]
  exact ⟨deskTo (an.drop k), by rw [← deskTo_append, List.take_append_drop]⟩
/-- One newline to a line. -/
theorem DeskR.newlines {ls : List (List UInt8)} {t : List UInt8} (h : DeskR ls t) (hl : ls.length ≤ 20) : t.count 10 = ls.length := by
  obtain ⟨an, h1, rfl⟩ := h.2 hl
  rw [deskTo_count _ h1.no10, h1.1]
theorem DeskR.short {ls : List (List UInt8)} {t : List UInt8} (h : DeskR ls t) : t.length ≤ 1220 := by
  by_cases c : 20 < ls.length
  · rw [h.1 c]; simp
  · obtain ⟨an, h1, rfl⟩ := h.2 (by omega)
    have := h1.short
    omega
end Go.Proofs.YtcdbeepphdfipaaGreatDoor

namespace Go.Proofs.YtcdbeepphdfipaaGreatDoor
open Go.ChangeShapes Go.WideShapes Go.ChangeAt Go.WideMaps Go.WideElems Go.RowKit Go.Joins Go.ChangeMaps
set_option linter.unusedVariables false

/-- What the row lists, and the world's shape beside it. -/
theorem returns_listed_shaped {H : Type} {enc : TypeId × Value → H} {a : Assume} {C : Checked} {os : Os} {f : FuncId} {fn : Func} {s : ChangeSpec} {conds : List PathCond} {apart fresh handsOn again : Bool} {X : World → Array Value → Prop}
    (hX : ∀ (w w' : World) (args : Array Value), w.heap = w'.heap → X w args → X w' args)
    (own : ownKnob C.prog.godebug = none) (started : os.Started) (noInit : C.prog.inits.idxOf? f = none) (hfn : C.prog.funcs[f]? = some fn)
    (witness : ∃ (w : World) (tape : Tape) (i : Input), w.os = os ∧ (w.forCall tape i).Shaped C.prog ∧ i.vars = [] ∧ Input.okWide C.prog (w.forCall tape i) .any w.heap.size f i ∧
      ((s.pre enc C.prog fn conds apart (w.forCall tape i).memory i.args ∧ X (w.forCall tape i).memory i.args) ∧ sizedMet enc C.prog fn (OpenSpec.ofChange s) apart (w.forCall tape i).memory i.args) ∧ a.holds C.prog (lone (Frame.enter C.prog f i.args .normal) [] (w.forCall tape i)))
    (contract : ∀ (W : World) (base : Nat) (args : Array Value) (ds gs : List (DataW H)) (before : List MemPlace),
      (∀ (j : Nat) t v, fn.params[j]? = some t → args[j]? = some v → Value.okWide C.prog W .any base t v) →
      DataW.Whole enc C.prog fn.params.toList s.vars apart W args.toList ds gs before → X W args → W.ShapedOpen C.prog →
      Calls C.prog f args W fun e W' => ∃ v, e = .returned v ∧ s.post enc C.prog fn apart fresh handsOn again W args v W') :
    ReturnsInHanded a C os f .any (fun w args => (s.pre enc C.prog fn conds apart w args ∧ X w args) ∧ sizedMet enc C.prog fn (OpenSpec.ofChange s) apart w args) (s.post enc C.prog fn apart fresh handsOn again) := by
  refine returnsInHanded_of_calls own started noInit witness ?_
  intro w tape i _ hsh _ hok hpre _
  obtain ⟨_, _, _, fn', hfn', _, _, _, _, hval⟩ := hok
  obtain rfl : fn' = fn := Option.some.inj (hfn'.symm.trans hfn)
  obtain ⟨⟨⟨ds, gs, before, hw, _⟩, hx⟩, _⟩ := hpre
  have hw' := DataW.Whole.of_heap (w' := w.forCall tape i) (by rfl) hw
  refine (contract (w.forCall tape i) w.heap.size i.args ds gs before hval hw' (hX _ _ _ (by rfl) hx) hsh).mono fun e W' ⟨v, he, hp⟩ => ?_
  subst he
  exact ChangeSpec.post_blind hp

theorem maxV_of {W : World} (h : W.ShapedOpen Tryz.prog) : MaxV W := Tryz.laysM146.s1_3 W h
end Go.Proofs.YtcdbeepphdfipaaGreatDoor

namespace Go.Proofs.YtcdbeepphdfipaaGreatDoor
open Go.RowKit Mat
set_option linter.unusedVariables false

theorem count_take (L : List UInt8) (i : Nat) (x : UInt8) (h : L[i]? = some x) : (L.take (i + 1)).count 10 = (L.take i).count 10 + (if x = 10 then 1 else 0) := by
  rw [List.take_add_one, h, List.count_append]
  by_cases c : x = 10
  · subst c; simp
  · simp [c]

set_option maxHeartbeats 1000000 in
theorem newlines_any (L : List UInt8) (w : World) (hL : L.length ≤ 100000) :
    Calls Tryz.prog 25 #[.string (bs L)] w fun e w' => e = .returned (.int .i64 (L.count 10 : Nat)) ∧ w = w' := by
  obtain ⟨S, hS⟩ : ∃ S, S = bs L := ⟨_, rfl⟩
  have hn : S.size = L.length := by rw [hS, bs_size]
  have hb : S.size ≤ 100000 := by omega
  have hix := run_idx L
  rw [← hS] at hix ⊢
  have HN := Lib.hid hn
  have HX := Lib.hid hix
  clear hS hn hix hL
  go_enter Tryz.func25, Tryz.ntmps25
  go_wp2_with fail
  go_loop [3, 4] (fun t3 t4 => ∃ (i c : Nat), t3 = .int .i64 c ∧ t4 = .int .i64 i ∧ i ≤ S.size ∧ c ≤ i ∧ Hid (c = (L.take i).count 10)) (fun _ t4 => S.size - (intOf t4).toNat)
  case atStart => exact ⟨0, 0, rfl, rfl, Nat.zero_le _, Nat.le_refl _, by show 0 = _; simp⟩
  case round =>
    obtain ⟨i, c, rfl, rfl, hi, hci, HC⟩ := hrel
    by_cases hin : i < S.size
    · obtain ⟨x, hx, hrun⟩ := HX.out i (by rw [← HN.out]; exact hin)
      have hct := count_take L i x hx
      have HCT := Lib.hid hct
      obtain ⟨X, hX⟩ : ∃ X, X = x.toNat := ⟨_, rfl⟩
      rw [← hX] at hrun
      have HXX := Lib.hid hX
      clear hx hct hX
      by_cases h10 : X = 10
      · subst h10
        go_wp2_with fail
        go_round
        case rel => exact ⟨i + 1, c + 1, by go_num, by go_num, by omega, by omega, by
          show c + 1 = _
          rw [HCT.out, if_pos (UInt8.toNat_inj.1 HXX.out.symm), HC.out]⟩
        case measure => simp [intOf]; omega
      · have hd : ((X : Int) == 10) = false := beq_eq_false_iff_ne.2 (by omega)
        go_wp2_with fail
        go_round
        case rel => exact ⟨i + 1, c, by first | rfl | go_num, by go_num, by omega, by omega, by
          show c = _
          rw [HCT.out, if_neg (fun e => by have := HXX.out; rw [e] at this; exact h10 this), HC.out, Nat.add_zero]⟩
        case measure => simp [intOf]; omega
    · obtain rfl : i = S.size := by omega
      go_wp2_with fail
      go_ret
      have hc : c = L.count 10 := by rw [HC.out, HN.out, List.take_length]
      rw [hc]
      exact ⟨rfl, rfl⟩

theorem toList_some {T : ByteArray} (h : T ≠ ⟨#[]⟩) : T.toList.isEmpty = false := by
  cases hE : T.toList with
  | nil =>
    refine absurd ?_ h
    cases T with
    | mk d =>
      rw [ByteArray.toList_eq] at hE
      simp at hE
      rw [hE]
  | cons _ _ => rfl
theorem IsS.upto {w : World} {ao : Option Addr} {n cap k : Nat} {ls : List (List UInt8)} (h : IsS w (.slice ao n cap) ls) (hk : k ≤ n) : IsS w (.slice ao k cap) (ls.take k) := by
  obtain ⟨ao', cap', e, h1, h2, h3⟩ := h
  simp only [Value.slice.injEq] at e
  obtain ⟨rfl, rfl, rfl⟩ := e
  have hlen : (ls.take k).length = k := by rw [List.length_take]; omega
  refine ⟨ao, cap, by rw [hlen], ⟨by rw [hlen]; omega, h1.2⟩, h2, fun i hi => ?_⟩
  rw [hlen] at hi
  obtain ⟨b, o, e1, e2⟩ := h3 i (by omega)
  exact ⟨b, o, e1, by rw [getD_take hi]; exact e2⟩

set_option maxRecDepth 100000 in
set_option maxHeartbeats 8000000 in
theorem lawRunDesk_any (v : Value) (n : Nat) (w : World) (hb : RawB w v n) (hv : ErrV w) (hm : MaxV w) :
    Calls Tryz.prog 7 #[v] w fun e w' => e = .returned (.bool true) ∧ New w w' := by
  obtain ⟨ao, cap, rfl, hcap, hmx, -⟩ := id hb
  unfold maxLen at hmx
  have HB := Lib.hid hb
  have HV := Lib.hid (And.intro hv hm)
  clear hb hv hm
  by_cases hbig : 1048576 < n
  · go_enter Tryz.func7, Tryz.ntmps7
    go_wp2_with fail
    go_ret
    exact ⟨rfl, Chg.refl _ _⟩
  · go_enter Tryz.func7, Tryz.ntmps7
    go_wp2_with fail
    refine (drawRunDesk_any _ _ _ HB.out).mono ?_
    rintro e w1 ⟨u, ls, rfl, ho, h5, hsh, hn1⟩
    have hs := isS_of_own ho
    have hf : Fit ls := fun i => by
      by_cases hi : i < ls.length
      · rw [getD_lt hi]; exact Nat.le_trans (hsh _ (List.getElem_mem hi)) (by decide)
      · rw [List.getD_eq_getElem?_getD, List.getElem?_eq_none (by omega)]; simp
    obtain ⟨a2, n2, c2, rfl, HN2⟩ := hs.shape
    have hcp := hs.cap
    unfold maxLen at hcp
    have hc1 : n2 ≤ c2 := hcp.1
    have hc2 := hcp.2
    have hn5 : n2 ≤ 5 := by rw [HN2.out]; exact h5
    have H1 := Lib.hid (And.intro hs (And.intro hn1 hf))
    have HL5 := Lib.hid h5
    clear ho hsh hn1 hs hf hcp h5
    go_wp2_with fail
    refine (implRunDesk_any _ ls _ H1.out.1 H1.out.2.2 (by have := HL5.out; omega) (HV.out.1.new H1.out.2.1) (HV.out.2.new H1.out.2.1)).mono ?_
    rintro e w2 ⟨t, rfl, ht, hn2⟩
    have hts := ht.short
    have htc := ht.newlines (by have := HL5.out; omega)
    have H2 := Lib.hid (And.intro ht (And.intro (H1.out.1.new hn2) (H1.out.2.1.trans hn2)))
    have KN := Lib.hid (fun w => newlines_any t w (by omega))
    rw [htc, ← HN2.out] at KN
    have s0 := fun i hi w => run_sto t i hi w
    have S0 := Lib.hid s0
    obtain ⟨T, hT⟩ : ∃ T, T = bs t := ⟨_, rfl⟩
    rw [← hT] at KN S0 ⊢
    have hTs : T.size ≤ 1220 := by rw [hT, bs_size]; exact hts
    have HT := Lib.hid hT
    clear hT hn2 ht hts htc s0
    have hem : T = ⟨#[]⟩ ∨ T ≠ ⟨#[]⟩ := Classical.em _
    rcases hem with hem | hem
    · subst hem
      go_wp2_with fail
      refine (specRunDesk_any _ ls _ H2.out.2.1 H1.out.2.2 (by have := HL5.out; omega)).mono ?_
      rintro e w3 ⟨t', rfl, ht', hn3⟩
      obtain rfl : t' = t := ht'.unique H2.out.1
      rw [← HT.out]
      have H3 := Lib.hid hn3
      clear ht' hn3
      go_wp2_with fail
      refine (specRunDesk_any _ ls _ (H2.out.2.1.new H3.out) H1.out.2.2 (by have := HL5.out; omega)).mono ?_
      rintro e w4 ⟨t2, rfl, ht', hn4⟩
      obtain rfl : t2 = t' := ht'.unique H2.out.1
      rw [← HT.out]
      have H4 := Lib.hid (H2.out.2.2.trans (H3.out.trans hn4))
      clear ht' hn4
      go_wp2_with fail
      go_ret
      exact ⟨rfl, H4.out⟩
    · have hie : T.toList.isEmpty = false := toList_some hem
      have hn0 : n2 ≠ 0 := by
        intro h0
        apply hem
        have hl0 : ls.length = 0 := by rw [← HN2.out]; exact h0
        obtain ⟨an, h1, h2⟩ := H2.out.1.2 (by omega)
        rw [HT.out, h2, List.length_eq_zero_iff.1 (by rw [h1.1, hl0] : an.length = 0)]
        rfl
      obtain ⟨b2, o2, rfl, _⟩ := H2.out.2.1.at (i := 0) (by omega)
      have HIE := Lib.hid hem
      clear hem
      go_wp2_with fail
      refine (specRunDesk_any _ ls _ H2.out.2.1 H1.out.2.2 (by have := HL5.out; omega)).mono ?_
      rintro e w3 ⟨t', rfl, ht', hn3⟩
      obtain rfl : t' = t := ht'.unique H2.out.1
      rw [← HT.out]
      have H3 := Lib.hid (And.intro (H2.out.2.1.new hn3) (H2.out.2.2.trans hn3))
      clear ht' hn3
      go_wp2_with fail
      go_loopw [5] (fun t5 wr => ∃ k : Nat, t5 = .int .i64 k ∧ k ≤ n2 + 1 ∧ Hid (New w3 wr)) (fun t5 _ => n2 + 1 - (intOf t5).toNat)
      case atStart => exact ⟨0, rfl, by omega, Chg.refl _ _⟩
      case round =>
        obtain ⟨k, rfl, hk, HW⟩ := hrel
        obtain ⟨wz, hwz⟩ : ∃ wz : World, wz = wr := ⟨_, rfl⟩
        rw [← hwz] at HW
        rw [← hwz]
        clear hwz
        by_cases hkn : k ≤ n2
        · have hkc : k ≤ c2 := by omega
          have hf' : Fit (ls.take k) := fun i => by
            by_cases hi : i < k
            · rw [getD_take hi]; exact H1.out.2.2 i
            · rw [List.getD_eq_getElem?_getD, List.getElem?_eq_none (by rw [List.length_take]; omega)]; simp
          have HF := Lib.hid hf'
          clear hf'
          go_wp2_with fail
          refine (implRunDesk_any _ (ls.take k) _ ((H3.out.1.new HW.out).upto hkn) HF.out (by rw [List.length_take]; have := HL5.out; omega) ((HV.out.1.new H3.out.2).new HW.out) ((HV.out.2.new H3.out.2).new HW.out)).mono ?_
          rintro e w4 ⟨q, rfl, hq, hn4⟩
          obtain ⟨z, hz⟩ := H2.out.1.early (by have := HL5.out; omega) (by rw [← HN2.out]; exact hkn) hq
          obtain ⟨E, hE⟩ : ∃ E, E = bs q := ⟨_, rfl⟩
          rw [← hE]
          have hEs : E.size = q.length := by rw [hE, bs_size]
          have hET : E.size ≤ T.size := by rw [hEs, HT.out, bs_size, hz, List.length_append]; omega
          have s1 : ∀ w, (Instr.slice 9 (.string T) none (some (.int .i64 (E.size : Int))) none).run Tryz.prog w = .ok (.string E) w := fun w => by
            have h := S0.out E.size (by rw [hEs, hz, List.length_append]; omega) w
            rw [h, hE, hz, bs_size, List.take_left']
            rfl
          have H4 := Lib.hid (HW.out.trans hn4)
          clear hq hn4 hz hE hEs
          go_wp2_with fail
          go_roundw
          case rel => exact ⟨k + 1, by go_num, by omega, H4.out⟩
          case measure => simp [intOf]; omega
        · go_wp2_with fail
          refine (KN.out _).mono ?_
          rintro e w4 ⟨rfl, rfl⟩
          go_wp2_with fail
          go_ret
          exact ⟨rfl, H3.out.2.trans HW.out⟩
end Go.Proofs.YtcdbeepphdfipaaGreatDoor

namespace Go.Proofs.YtcdbeepphdfipaaGreatDoor
open Go.ChangeShapes Go.WideShapes Go.ChangeAt Go.WideMaps Go.WideElems Go.RowKit Go.Joins Go.ChangeMaps
set_option linter.unusedVariables false

set_option maxRecDepth 100000 in
theorem lawRunDesk_lifted (os : Os) (started : os.Started) (H : Type) (enc : TypeId × Value → H) :
    ReturnsInHanded {} Tryz.checked os 7 .any (fun w args => (Rows.fnRunDeskSpec.pre enc Tryz.prog Tryz.f7 [] false w args ∧ laidMetH Tryz.prog Rows.fnRunDeskRow.laid w) ∧ sizedMet enc Tryz.prog Tryz.f7 (OpenSpec.ofChange Rows.fnRunDeskSpec) false w args)
      (Rows.fnRunDeskSpec.post enc Tryz.prog Tryz.f7 false true false false) := by
  refine returns_listed_shaped (C := Tryz.checked) (X := fun w _ => laidMetH Tryz.prog Rows.fnRunDeskRow.laid w) (fun _ _ _ hh h => h.of_heap hh) own started (by kernel_rfl) Tryz.func7
    (ChangeSpec.witness_shaped (enc := enc) (C := Tryz.checked) (os := os) (X := fun w _ => laidMetH Tryz.prog Rows.fnRunDeskRow.laid w) false (World.laidAll Tryz.prog os laidL) #[.slice none 0 0] 8 (World.laidAll_os _ _ _)
      (laid_shaped os _) (by kernel_rfl) (by kernel_rfl) (by kernel_rfl) (laid_met os _)) ?_
  intro W base args ds gs before hval0 hW hL hsh
  have hval : ∀ (j : Nat) t v, Tryz.f7.params[j]? = some t → args[j]? = some v → Value.okWide Tryz.prog W .any base t v := hval0
  have hW' := hW
  obtain ⟨p, q, hA0, hV, rfl, hfz, hnd⟩ := hW
  have hA : DataW.TrodAll enc Tryz.prog W 0 (fun _ => true) true Tryz.f7.params.toList args.toList ds p := hA0
  rw [Tryz.params7] at hA hval
  obtain ⟨v0, vs0, d0, ds0, pl0, q0, hargs, rfl, rfl, h0, r0⟩ := trodAll_cons hA
  obtain ⟨rfl, rfl, rfl⟩ := trodAll_nil r0
  obtain rfl : args = #[v0] := by cases args; simp_all
  obtain ⟨rfl, rfl⟩ := trodVars_none hV
  obtain ⟨a0, len0, cap0, rfl⟩ := okWide_slice Tryz.underlying30 (hval 0 30 v0 rfl rfl)
  have k0 := h0
  have lt0 : ∀ x ∈ pl0, x.block < W.heap.size := by obtain ⟨m, hm⟩ := k0; exact DataW.trod_lt m _ _ _ hm
  have hraw : RawB W (.slice a0 len0 cap0) len0 := by
    obtain ⟨fuel, hf⟩ := h0
    exact rawB_of_trod hf
  clear hA0 hval0
  refine (lawRunDesk_any _ len0 W hraw (errV_of_laid hL) (maxV_of hsh)).mono fun e W' ⟨he, hnew⟩ => ?_
  subst he
  have bel := hnew.below
  exact ⟨_, rfl, _, _, _, [], _, [], hW', trodAll_mk1 (shut_bool Tryz.underlying4 _), (trodAll_cons_mk (Below.trod laidOut (by kernel_rfl) (of_decide_eq_true (by kernel_rfl)) k0 bel lt0) trodAll_mk0), rfl, bel.frame _, fun h => by cases h⟩

theorem lawRunDesk_holds : Rows.FnRunDeskSaid :=
  OpenClaim.holds_of_wide 7 Tryz.f7 rfl rfl rfl rfl rfl rfl rfl ⟨rfl, rfl, rfl, rfl, rfl⟩ rfl rfl rfl rfl rfl (by kernel_rfl) Tryz.func7 (by kernel_rfl)
    (of_decide_eq_true (by kernel_rfl)) (by unfold Func.isWrapper; first | (rw [if_pos (by decide +kernel)]; kernel_rfl) | (rw [if_neg (by decide +kernel)]; exact ⟨rfl, rfl⟩))
    (fun os started H enc _ => lawRunDesk_lifted os started H enc)
#print axioms lawRunDesk_holds
end Go.Proofs.YtcdbeepphdfipaaGreatDoor

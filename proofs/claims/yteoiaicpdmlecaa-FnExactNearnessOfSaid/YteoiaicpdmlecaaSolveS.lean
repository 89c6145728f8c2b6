/- spec.solve. -/
import Derived.Test.YteoiaicpdmlecaaSolM
import Derived.Test.YteoiaicpdmlecaaNullsB
namespace Go.Proofs.Yteoiaicpdmlecaa
open Go.RowKit Mat
set_option linter.unusedVariables false

/-- The answer: the factors, or nil and false. -/
def SolB (q : Nat) [NeZero q] (rows : List (List Int)) (goal out : List Int) (ok : Bool) : Prop :=
  (ok = true → SolR q rows goal (some out)) ∧ (ok = false → out = [] ∧ SolR q rows goal none)
theorem SolB.unique {q : Nat} [NeZero q] (hq : Pr q) {rows : List (List Int)} {goal a b : List Int} {x y : Bool} (h : SolB q rows goal a x) (h' : SolB q rows goal b y) : a = b ∧ x = y := by
  cases x with
  | true =>
    cases y with
    | true => have := (h.1 rfl).unique hq (h'.1 rfl); exact ⟨Option.some.inj this, rfl⟩
    | false => have := (h.1 rfl).unique hq (h'.2 rfl).2; cases this
  | false =>
    cases y with
    | true => have := (h.2 rfl).2.unique hq (h'.1 rfl); cases this
    | false => exact ⟨by rw [(h.2 rfl).1, (h'.2 rfl).1], rfl⟩
/-- It ends with factors of its own and an answer. -/
def GivesS (q : Nat) [NeZero q] (rows : List (List Int)) (goal : List Int) (w : World) (e : Ending) (w' : World) : Prop :=
  ∃ u out ok, e = .returned (.tuple #[u, .bool ok]) ∧ Own w' 3 u (out.map (Value.int .i64)) ∧ From w.heap.size u ∧ SolB q rows goal out ok ∧ New w w'
theorem SolB.len {q : Nat} [NeZero q] {rows : List (List Int)} {goal a : List Int} {x : Bool} (h : SolB q rows goal a x) : a.length ≤ rows.length := by
  cases x with
  | true => rw [(h.1 rfl).1.1]; exact Nat.le_refl _
  | false => rw [(h.2 rfl).1]; simp

theorem tab_succ (n : Nat) (f : Nat → Int) : tab (n + 1) f = tab n f ++ [f n] := by simp [tab, List.range_succ]
/-- The first k rows of what is reduced. -/
def augTo (rows : List (List Int)) (goal : List Int) (k : Nat) : List (List Int) := (List.range k).map (augRow rows goal)
theorem augTo_succ (rows : List (List Int)) (goal : List Int) (k : Nat) : augTo rows goal (k + 1) = augTo rows goal k ++ [augRow rows goal k] := by simp [augTo, List.range_succ]
theorem augTo_length (rows : List (List Int)) (goal : List Int) (k : Nat) : (augTo rows goal k).length = k := by simp [augTo]
theorem augRow_end (rows : List (List Int)) (goal : List Int) (k : Nat) : augRow rows goal k = tab rows.length (fun j => gi (gr rows j) k) ++ [gi goal k] := by
  unfold augRow
  rw [tab_succ, if_neg (by omega), tab_congr (g := fun j => gi (gr rows j) k) (fun i hi => by rw [if_pos hi])]
/-- What the first r reduced rows tell. -/
def sfTo (m : Nat) (a : List (List Int)) (r c : Nat) : Int := if 0 ≤ ldIx a c r then gi (gr a (ldIx a c r).toNat) m else 0
theorem sfTo_succ (m : Nat) (a : List (List Int)) (r c : Nat) : sfTo m a (r + 1) c = if ldN (gr a r) = c then gi (gr a r) m else sfTo m a r c := by
  unfold sfTo
  by_cases e : ldN (gr a r) = c
  · simp [ldIx, e]
  · simp [ldIx, e]
theorem ldIx_pos {a : List (List Int)} {c k r : Nat} (hr : r < k) (h : ldN (gr a r) = c) : 0 ≤ ldIx a c k := by
  apply Classical.byContradiction
  intro hc
  exact ldIx_neg (show ldIx a c k < 0 by omega) r hr h

set_option maxRecDepth 100000 in
set_option maxHeartbeats 4000000 in
theorem specSolve_any (q : Nat) [NeZero q] (hq : Pr q) (n : Nat) (v vg : Value) (rows : List (List Int)) (goal : List Int) (w : World) (hr : IsR w v rows) (hg : IsI w vg goal) (hgr : GoodRows q n rows) (hgg : GoodRow q n goal) (hm6 : rows.length ≤ 6) (hn1 : 1 ≤ n) (hn7 : n ≤ 7) :
    Calls Try.prog 124 #[.int .i64 q, v, vg] w fun e w' => GivesS q rows goal w e w' := by
  obtain ⟨ao, m, cap, rfl, HN, hm⟩ := hr.shape
  obtain ⟨ag, n', cg, rfl, HM, hmx⟩ := hg.shape
  have hnn : n = n' := by rw [HM.out, hgg.1]
  subst hnn
  have hqp := hq.pos
  have hm6' : m ≤ 6 := by rw [HN.out]; exact hm6
  have HR := Lib.hid hr
  have HG := Lib.hid hg
  have HGR := Lib.hid hgr
  have HGG := Lib.hid hgg
  have HQ := Lib.hid hq
  clear hr hg hgr hgg hq hm6
  go_enter Try.func124, Try.ntmps124
  go_wp2_with fail
  go_loopw [9, 10] (fun t i wz => ∃ (c : Nat) (vs : List Value), i = .int .i64 c ∧ c ≤ n ∧ OwnR wz 31 3 t vs (augTo rows goal c) ∧ FromR w.heap.size t vs (augTo rows goal c) ∧ New w wz) (fun _ i _ => n - (intOf i).toNat)
  case atStart => exact ⟨0, [], rfl, Nat.zero_le _, ⟨Own.empty _ _, rfl, fun i hi => by simp [augTo] at hi, fun i j hi => by simp [augTo] at hi⟩, ⟨From.new _ _ _, fun i hi => by simp [augTo] at hi⟩, New.alloc _ _⟩
  case round =>
    obtain ⟨c, vs, rfl, hc, hown, hfrom, hnew⟩ := hrel
    have HO := Lib.hid hown
    have HF := Lib.hid hfrom
    have HZ := Lib.hid hnew
    clear hown hfrom hnew
    obtain ⟨wz, hwz⟩ : ∃ wz : World, wz = wr := ⟨_, rfl⟩
    rw [← hwz] at HO HZ
    rw [← hwz]
    clear hwz
    obtain ⟨ax, lx, cx, rfl, HLX, hlx, _⟩ := HO.out.outer.opened (by rw [HO.out.len, augTo_length]; unfold Mid; omega)
    by_cases hcn : c < n
    · go_wp2_with fail
      go_loopw [11, 12] (fun t i wy => ∃ (j : Nat), i = .int .i64 j ∧ j ≤ m ∧ Own wy 3 t ((tab j (fun l => gi (gr rows l) c)).map (Value.int .i64)) ∧ From wz.heap.size t ∧ New wz wy) (fun _ i _ => m - (intOf i).toNat)
      case atStart => exact ⟨0, rfl, Nat.zero_le _, Own.empty _ _, From.new _ _ _, New.alloc _ _⟩
      case round =>
        obtain ⟨j, rfl, hj, hown, hfrom, hnew⟩ := hrel
        have hlj : ((tab j (fun l => gi (gr rows l) c)).map (Value.int .i64)).length = j := by rw [List.length_map, tab_length]
        obtain ⟨a8, l8, c8, rfl, HL8, _, _⟩ := hown.opened (by rw [hlj]; unfold Mid; omega)
        have HP := Lib.hid (And.intro hown (And.intro hfrom hnew))
        have hlen : ((tab j (fun l => gi (gr rows l) c)).map (Value.int .i64)).length + 1 ≤ 1099511627776 := by rw [hlj]; omega
        by_cases hjm : j < m
        · obtain ⟨b, o, u, rfl, ck, hu⟩ := (HR.out.new (HZ.out.trans hnew)).at hjm
          obtain ⟨au, nu, cu, rfl, HNU, hnu⟩ := hu.shape
          have hnu' : n = nu := by rw [HNU.out, (HGR.out j (by rw [← HN.out]; exact hjm)).1]
          subst hnu'
          obtain ⟨bx, ox, rfl, cxx⟩ := hu.at hcn
          have HJ := Lib.hid hlj
          clear hown hfrom hnew hu hlj
          go_wp2_with (at_builtin; refine wpList_app1 rfl _ _ _ rfl tyInt wr HP.out.1 rfl _ _ rfl rfl rfl hlen ?_; intro v2 w2 k1 k2 k3; have K2 := Lib.hid (And.intro k1 (And.intro k2 k3)); clear k1 k2 k3)
          go_roundw
          case rel =>
            obtain ⟨k1, k2, k3⟩ := K2.out
            exact ⟨j + 1, by go_num, by omega, by rw [tab_succ, List.map_append]; exact k1, (fun g hg => by
              rcases k3 g hg with x | x
              · exact HP.out.2.1 g x
              · exact Nat.le_trans HP.out.2.2.size x), HP.out.2.2.then k2 (fun i hi => HP.out.2.1 i hi)⟩
          case measure => simp [intOf]; omega
        · obtain rfl : j = m := by omega
          obtain ⟨bg, og, rfl, cgx⟩ := (HG.out.new (HZ.out.trans hnew)).at hcn
          have hlv : vs.length + 1 ≤ 1099511627776 := by rw [HO.out.len, augTo_length]; omega
          have HJ := Lib.hid hlj
          clear hown hfrom hnew hlj
          go_wp2_with (first
            | (at_builtin; refine wpList_app1 rfl (.tmp 43) (.tmp 48) _ rfl tyInt wr HP.out.1 rfl _ _ rfl rfl rfl hlen ?_; intro v2 w2 k1 k2 k3; obtain ⟨a2, l2, c2, rfl, _, _, _⟩ := k1.opened (by rw [List.length_append, HJ.out]; unfold Mid; simp; omega); have K2 := Lib.hid (And.intro k1 (And.intro k2 k3)); clear k1 k2 k3)
            | (at_builtin; refine wpList_app1 rfl (.tmp 42) (.tmp 50) _ rfl tyRow w2 (HO.out.outer.new (HP.out.2.2.then K2.out.2.1 (fun i hi => HP.out.2.1 i hi))) rfl _ _ rfl rfl rfl hlv ?_; intro v3 w3 k1 k2 k3; have K3 := Lib.hid (And.intro k1 (And.intro k2 k3)); clear k1 k2 k3))
          go_roundw
          case rel =>
            obtain ⟨k1, k2, k3⟩ := K2.out
            obtain ⟨m1, m2, m3⟩ := K3.out
            have hn2 := HP.out.2.2.then k2 (fun i hi => HP.out.2.1 i hi)
            have hk1 : Own w2 3 (.slice a2 l2 c2) ((augRow rows goal c).map (Value.int .i64)) := by
              rw [augRow_end, List.map_append, ← HN.out]; exact k1
            have hfr : From wz.heap.size (.slice a2 l2 c2) := fun g hg => by
              rcases k3 g hg with x | x
              · exact HP.out.2.1 g x
              · exact Nat.le_trans HP.out.2.2.size x
            obtain ⟨p1, p2, p3⟩ := OwnR.push HO.out HF.out HZ.out.size hn2 hk1 hfr m1 m2 m3
            refine ⟨c + 1, vs ++ [Value.slice a2 l2 c2], by go_num, by omega, ?_, ?_, New.then HZ.out p3 (fun i hi => HF.out.1 i hi)⟩
            · rw [augTo_succ]; exact p1
            · rw [augTo_succ]; exact p2
          case measure => simp [intOf]; omega
    · obtain rfl : c = n := by omega
      have hall : augTo rows goal c = augAll rows goal := by unfold augTo augAll; rw [HGG.out.1]
      have hag := augAll_good HGR.out HGG.out
      have hal : (augAll rows goal).length = c := by rw [augAll_length, HGG.out.1]
      have hia : IsR wz (.slice ax lx cx) (augAll rows goal) := by
        have h := HO.out
        rw [hall] at h
        exact h.isR (by unfold Mid; omega) (fun i hi => by rw [(hag i hi).1, ← HN.out]; unfold Mid; omega)
      have HIA := Lib.hid (And.intro hia (And.intro hag hal))
      clear hia hag hal hall
      go_wp2_with fail
      refine (reduce_any q HQ.out (rows.length + 1) (by rw [← HN.out]; omega) _ (augAll rows goal) _ HIA.out.1 HIA.out.2.1 (by have := HIA.out.2.2; omega)).mono ?_
      rintro e w1 ⟨ua, vsa, a, rfl, hoa, hfa, hred, hn1w⟩
      have hale := hred.le_cols
      rw [← HN.out] at hale hred
      have hspec := fun h => spec_sol HQ.out HGR.out HGG.out (a := a) h
      rw [← HN.out] at hspec
      have hspec := hspec hred
      obtain ⟨aa, na, ca, rfl, HA, hna, _⟩ := hoa.outer.opened (by rw [hoa.len]; unfold Mid; omega)
      have hna7 : na ≤ 7 := by rw [HA.out, hoa.len]; omega
      have hnae : na = a.length := by rw [HA.out, hoa.len]
      have hix : IsR w1 (.slice aa na ca) a := hoa.isR (by unfold Mid; omega) (fun i hi => by rw [(hred.inv.good i hi).1]; unfold Mid; omega)
      have HIX := Lib.hid hix
      have HRED := Lib.hid hred
      have HNA := Lib.hid hnae
      have HSP := Lib.hid hspec
      have HN1 := Lib.hid (HZ.out.trans hn1w)
      clear hoa hfa hred hn1w hix hnae hspec HIA
      go_wp2_with (at_make; refine wpList_mk rfl _ _ _ rfl tyInt _ _ _ _ m m rfl rfl rfl rfl (Nat.le_refl _) hm ?_; intro v3 w3 hv3 ho3 hn3 hs3; subst hv3; have HO3 := Lib.hid ho3; have HN3 := Lib.hid hn3; have HS3 := Lib.hid hs3; clear ho3 hn3 hs3)
      go_loopw [15] (fun i wr => ∃ r : Nat, i = .int .i64 r ∧ r ≤ na ∧ Own wr 3 (.slice (some ⟨w1.heap.size, 0, none⟩) m m) ((tab m (sfTo m a r)).map (Value.int .i64)) ∧ New w1 wr ∧ w1.heap.size < wr.heap.size ∧ Hid (∀ j, j < r → ldN (gr a j) ≠ m)) (fun i _ => na - (intOf i).toNat)
      case atStart =>
        refine ⟨0, rfl, Nat.zero_le _, ?_, HN3.out, HS3.out, fun j hj => by omega⟩
        rw [tab_congr (g := fun _ => 0) (fun i _ => by simp [sfTo, ldIx]), tab_zero, List.map_replicate]
        exact HO3.out
      case round =>
        obtain ⟨r, rfl, hr, hown, hnew, hsz, HNO⟩ := hrel
        have HO := Lib.hid hown
        have HWR := Lib.hid hnew
        clear hown hnew
        obtain ⟨wq, hwq⟩ : ∃ wq : World, wq = wr := ⟨_, rfl⟩
        rw [← hwq] at HO HWR hsz
        rw [← hwq]
        clear hwq
        by_cases hrn : r < na
        · have hra : r < a.length := by rw [← HNA.out]; exact hrn
          obtain ⟨br, or', ur, rfl, cr, hur⟩ := HIX.out.at hrn
          obtain ⟨ar, nr, cpr, rfl, HNR, hnr⟩ := hur.shape
          have hg := HRED.out.inv.good r hra
          have hnre : nr = m + 1 := by rw [HNR.out, hg.1]
          subst hnre
          have HU := Lib.hid hur
          have HG := Lib.hid hg
          clear hur hg
          go_wp2_with fail
          go_loopw [16] (fun t wr => ((∃ j : Nat, t = .int .i64 j ∧ j ≤ m ∧ Hid (j < m → ldN (gr a r) ≠ m) ∧ Own wr 3 (.slice (some ⟨w1.heap.size, 0, none⟩) m m) ((tab m (fun c => if j + 1 ≤ c ∧ ldN (gr a r) = c then gi (gr a r) m else sfTo m a r c)).map (Value.int .i64))) ∨
            (t = .int .i64 (-1) ∧ Hid (ldN (gr a r) ≠ m) ∧ Own wr 3 (.slice (some ⟨w1.heap.size, 0, none⟩) m m) ((tab m (sfTo m a (r + 1))).map (Value.int .i64)))) ∧ New w1 wr ∧ w1.heap.size < wr.heap.size) (fun t _ => (intOf t + 1).toNat)
          case atStart =>
            refine ⟨.inl ⟨m, rfl, Nat.le_refl _, fun h => by omega, ?_⟩, HWR.out, hsz⟩
            rw [tab_congr (g := sfTo m a r) (fun i hi => by rw [if_neg (by omega)])]
            exact HO.out
          case round =>
            obtain ⟨hcase, hnew, hsz2⟩ := hrel
            have HWS := Lib.hid hnew
            clear hnew
            rcases hcase with ⟨j, rfl, hj, HJM, hown⟩ | ⟨rfl, HJM, hown⟩
            · have HJ := Lib.hid hown
              clear hown
              have cr' := HWS.out.cellNew cr
              have hjm1 : j < m + 1 := by omega
              obtain ⟨bx, ox, rfl, cx⟩ := (HU.out.new HWS.out).at hjm1
              obtain ⟨_, _, e1, cm⟩ := (HU.out.new HWS.out).at (i := m) (by omega)
              simp only [Option.some.injEq, Addr.mk.injEq, and_true] at e1
              obtain ⟨rfl, rfl⟩ := e1
              obtain ⟨x, hx⟩ : ∃ x, x = gi (gr a r) j := ⟨_, rfl⟩
              rw [← hx] at cx
              have HX := Lib.hid hx
              clear hx
              have hld := ldN_iff HG.out (HRED.out.inv.lead r hra) hjm1
              have HLD := Lib.hid hld
              clear hld
              -- what follows behind the round
              have hnext : ∀ (wz : World), (ldN (gr a r) ≠ m) → Own wz 3 (.slice (some ⟨w1.heap.size, 0, none⟩) m m) ((tab m (fun c => if j ≤ c ∧ ldN (gr a r) = c then gi (gr a r) m else sfTo m a r c)).map (Value.int .i64)) →
                  ((∃ j' : Nat, Value.int .i64 ((j : Int) - 1) = .int .i64 j' ∧ j' ≤ m ∧ Hid (j' < m → ldN (gr a r) ≠ m) ∧ Own wz 3 (.slice (some ⟨w1.heap.size, 0, none⟩) m m) ((tab m (fun c => if j' + 1 ≤ c ∧ ldN (gr a r) = c then gi (gr a r) m else sfTo m a r c)).map (Value.int .i64))) ∨
                  (Value.int .i64 ((j : Int) - 1) = .int .i64 (-1) ∧ Hid (ldN (gr a r) ≠ m) ∧ Own wz 3 (.slice (some ⟨w1.heap.size, 0, none⟩) m m) ((tab m (sfTo m a (r + 1))).map (Value.int .i64)))) := by
                intro wz hne hz
                cases j with
                | zero =>
                  refine .inr ⟨by apply val_int; omega, hne, ?_⟩
                  rw [tab_congr (g := sfTo m a (r + 1)) (fun i hi => by
                    rw [sfTo_succ]
                    by_cases e : ldN (gr a r) = i
                    · rw [if_pos ⟨Nat.zero_le _, e⟩, if_pos e]
                    · rw [if_neg (fun h => e h.2), if_neg e])] at hz
                  exact hz
                | succ j' => exact .inl ⟨j', by apply val_int; omega, by omega, fun _ => hne, hz⟩
              have HNX := Lib.hid hnext
              clear hnext
              by_cases hyes : ldN (gr a r) = j
              · -- the lead stands here
                have h01 := HLD.out.1 hyes
                have h0 : x ≠ 0 := by rw [HX.out]; exact h01.1
                have hb : ahB (gr a r) j = true := ahB_iff.2 h01.2
                have hd : decide (x = 0) = false := by simp; exact h0
                have hd2 : (x != 0) = true := by simp; exact h0
                have hjl : j ≤ (gr a r).length := by rw [HG.out.1]; omega
                have HYES := Lib.hid hyes
                have HB := Lib.hid hb
                clear hyes hb h01
                by_cases hje : j = m
                · -- the goal has a lead
                  have hnone : SolR q rows goal none := by
                    have h := HSP.out
                    rw [if_pos (ldIx_pos hra (by rw [HYES.out, hje]))] at h
                    exact h
                  have HNONE := Lib.hid hnone
                  have hd3 : ((j : Int) == (m : Int)) = true := by rw [hje]; simp
                  clear hnone hje HNX
                  go_wp2_with (go_at_call 107; refine (ahead_any _ (gr a r) j _ (HU.out.new HWS.out) hjl).mono ?_; rintro e w' ⟨rfl, rfl⟩; rw [HB.out])
                  go_ret2
                  exact ⟨_, [], false, rfl, Own.nil _ _, (fun g hg => by simp [Value.ownBlock] at hg), ⟨(fun h => by cases h), fun _ => ⟨rfl, HNONE.out⟩⟩, HN1.out.trans HWS.out⟩
                · have hjlt : j < m := by omega
                  have hd3 : ((j : Int) == (m : Int)) = false := by simp; omega
                  obtain ⟨cl, fl⟩ := HJ.out.cell (i := j) (by rw [List.length_map, tab_length]; exact hjlt)
                  clear hje
                  go_wp2_with (go_at_call 107; refine (ahead_any _ (gr a r) j _ (HU.out.new HWS.out) hjl).mono ?_; rintro e w' ⟨rfl, rfl⟩; rw [HB.out])
                  go_roundw
                  case rel =>
                    have hst := HJ.out.set j (.int .i64 (gi (gr a r) m))
                    rw [set_map_int, tab_set (g := fun c => if j ≤ c ∧ ldN (gr a r) = c then gi (gr a r) m else sfTo m a r c) (fun _ => if_pos ⟨Nat.le_refl _, HYES.out⟩) (fun i hi hne => by
                      by_cases c : j + 1 ≤ i ∧ ldN (gr a r) = i
                      · rw [if_pos c, if_pos ⟨by omega, c.2⟩]
                      · rw [if_neg c, if_neg (fun h => c ⟨by omega, h.2⟩)])] at hst
                    exact ⟨HNX.out _ (by rw [HYES.out]; omega) hst, HWS.out.then (Chg.setCell _ _ _) (fun i hi => Nat.le_of_eq hi.symm), by rw [World.size_setCell]; exact hsz2⟩
                  case measure => simp [intOf]
              · -- it does not
                have hnm : ldN (gr a r) ≠ m := by
                  by_cases e : j = m
                  · rw [← e]; exact hyes
                  · exact HJM.out (by omega)
                have hsame : Own wr 3 (.slice (some ⟨w1.heap.size, 0, none⟩) m m) ((tab m (fun c => if j ≤ c ∧ ldN (gr a r) = c then gi (gr a r) m else sfTo m a r c)).map (Value.int .i64)) := by
                  have h := HJ.out
                  rw [tab_congr (g := fun c => if j ≤ c ∧ ldN (gr a r) = c then gi (gr a r) m else sfTo m a r c) (fun i hi => by
                    by_cases e : i = j
                    · subst e; rw [if_neg (by omega), if_neg (fun h => hyes h.2)]
                    · by_cases c : j + 1 ≤ i ∧ ldN (gr a r) = i
                      · rw [if_pos c, if_pos ⟨by omega, c.2⟩]
                      · rw [if_neg c, if_neg (fun h => c ⟨by omega, h.2⟩)])] at h
                  exact h
                have HK := Lib.hid (HNX.out _ hnm hsame)
                have hjl : j ≤ (gr a r).length := by rw [HG.out.1]; omega
                clear hnm hsame HNX
                by_cases h0 : x = 0
                · subst h0
                  clear hyes
                  go_wp2_with fail
                  go_roundw
                  case rel => exact ⟨HK.out, HWS.out, hsz2⟩
                  case measure => simp [intOf]
                · have hd : decide (x = 0) = false := by simp; exact h0
                  have hd2 : (x != 0) = true := by simp; exact h0
                  have hb : ahB (gr a r) j = false := by
                    rw [Bool.eq_false_iff]
                    intro h
                    exact hyes (HLD.out.2 ⟨by rw [← HX.out]; exact h0, ahB_iff.1 h⟩)
                  have HB := Lib.hid hb
                  clear hyes hb
                  go_wp2_with (go_at_call 107; refine (ahead_any _ (gr a r) j _ (HU.out.new HWS.out) hjl).mono ?_; rintro e w' ⟨rfl, rfl⟩; rw [HB.out])
                  go_roundw
                  case rel => exact ⟨HK.out, HWS.out, hsz2⟩
                  case measure => simp [intOf]
            · have HJ := Lib.hid hown
              clear hown
              go_wp2_with fail
              go_roundw
              case rel => exact ⟨r + 1, by go_num, by omega, HJ.out, HWS.out, hsz2, fun j hj => by
                by_cases e : j = r
                · rw [e]; exact HJM.out
                · exact HNO.out j (by omega)⟩
              case measure => simp [intOf]; omega
        · have hre : na = r := by omega
          subst hre
          have hsome : SolR q rows goal (some (solF m a)) := by
            have h := HSP.out
            have hb := ldIx_bounds a m a.length
            rw [if_neg (fun h0 => HNO.out (ldIx a m a.length).toNat (by rw [HNA.out]; omega) (hb.2.2 h0))] at h
            exact h
          have hrow : Own wq 3 (.slice (some ⟨w1.heap.size, 0, none⟩) m m) ((solF m a).map (Value.int .i64)) := by
            have h := HO.out
            rw [HNA.out] at h
            exact h
          have HS := Lib.hid (And.intro hsome hrow)
          clear hsome hrow
          go_wp2_with fail
          go_ret2
          exact ⟨_, solF m a, true, rfl, HS.out.2, (fun g hg => by simp [Value.ownBlock] at hg; have := HN1.out.size; omega), ⟨fun _ => HS.out.1, (fun h => by cases h)⟩, HN1.out.trans HWR.out⟩
end Go.Proofs.Yteoiaicpdmlecaa

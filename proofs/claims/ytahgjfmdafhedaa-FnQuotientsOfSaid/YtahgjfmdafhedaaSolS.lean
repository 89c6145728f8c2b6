/- spec.solve. (field).solve$1: all kept rows are taken off. -/
import Derived.Test.YtahgjfmdafhedaaPlaM
import Derived.Test.YtahgjfmdafhedaaNulk
import Derived.Test.YtahgjfmdafhedaaBase
import Derived.Test.YtahgjfmdafhedaaKnow
import Derived.Deep.QuietTactic
import Derived.BigQuiet
namespace Go.Proofs.Ytahgjfmdafhedaa
open Go.RowKit Mat
set_option linter.unusedVariables false

/-- The answer: the factors, or nil and false. -/
def SolB (q : Nat) [NeZero q] (rows : List (List Int)) (goal out : List Int) (ok : Bool) : Prop :=
  (ok = true → SolR q rows goal (some out)) ∧ (ok = false → out = [] ∧ SolR q rows goal none)
theorem SolB.unique {q : Nat} [NeZero q] (hq : Pr q) {rows : List (List Int)} {goal a b : List Int} {x y : Bool} (h : SolB q rows goal a x) (h' : SolB q rows goal b y) : a = b ∧ x = y := by
  cases x with
  | true =>
    cases y with
    | true => have := (h.1 rfl).unique hq (h'.1 rfl); exact ⟨Option.some.inj this, rfl⟩
    | false => have := (h.1 rfl).unique hq (h'.2 rfl).2; cases this
  | false =>
    cases y with
    | true => have := (h.2 rfl).2.unique hq (h'.1 rfl); cases this
    | false => exact ⟨by rw [(h.2 rfl).1, (h'.2 rfl).1], rfl⟩
/-- It ends with factors of its own and an answer. -/
def GivesS (q : Nat) [NeZero q] (rows : List (List Int)) (goal : List Int) (w : World) (e : Ending) (w' : World) : Prop :=
  ∃ u out ok, e = .returned (.tuple #[u, .bool ok]) ∧ Own w' 3 u (out.map (Value.int .i64)) ∧ From w.heap.size u ∧ SolB q rows goal out ok ∧ New w w'
theorem SolB.len {q : Nat} [NeZero q] {rows : List (List Int)} {goal a : List Int} {x : Bool} (h : SolB q rows goal a x) : a.length ≤ rows.length := by
  cases x with
  | true => rw [(h.1 rfl).1.1]; exact Nat.le_refl _
  | false => rw [(h.2 rfl).1]; simp

theorem tab_succ (n : Nat) (f : Nat → Int) : tab (n + 1) f = tab n f ++ [f n] := by simp [tab, List.range_succ]
/-- The first k rows of what is reduced. -/
def augTo (rows : List (List Int)) (goal : List Int) (k : Nat) : List (List Int) := (List.range k).map (augRow rows goal)
theorem augTo_succ (rows : List (List Int)) (goal : List Int) (k : Nat) : augTo rows goal (k + 1) = augTo rows goal k ++ [augRow rows goal k] := by simp [augTo, List.range_succ]
theorem augTo_length (rows : List (List Int)) (goal : List Int) (k : Nat) : (augTo rows goal k).length = k := by simp [augTo]
theorem augRow_end (rows : List (List Int)) (goal : List Int) (k : Nat) : augRow rows goal k = tab rows.length (fun j => gi (gr rows j) k) ++ [gi goal k] := by
  unfold augRow
  rw [tab_succ, if_neg (by omega), tab_congr (g := fun j => gi (gr rows j) k) (fun i hi => by rw [if_pos hi])]
/-- What the first r reduced rows tell. -/
def sfTo (m : Nat) (a : List (List Int)) (r c : Nat) : Int := if 0 ≤ ldIx a c r then gi (gr a (ldIx a c r).toNat) m else 0
theorem sfTo_succ (m : Nat) (a : List (List Int)) (r c : Nat) : sfTo m a (r + 1) c = if ldN (gr a r) = c then gi (gr a r) m else sfTo m a r c := by
  unfold sfTo
  by_cases e : ldN (gr a r) = c
  · simp [ldIx, e]
  · simp [ldIx, e]
theorem ldIx_pos {a : List (List Int)} {c k r : Nat} (hr : r < k) (h : ldN (gr a r) = c) : 0 ≤ ldIx a c k := by
  apply Classical.byContradiction
  intro hc
  exact ldIx_neg (show ldIx a c k < 0 by omega) r hr h

set_option maxRecDepth 100000 in
set_option maxHeartbeats 4000000 in
theorem specSolve_any (q : Nat) [NeZero q] (hq : Pr q) (n : Nat) (v vg : Value) (rows : List (List Int)) (goal : List Int) (w : World) (hr : IsR w v rows) (hg : IsI w vg goal) (hgr : GoodRows q n rows) (hgg : GoodRow q n goal) (hm6 : rows.length ≤ 6) (hn1 : 1 ≤ n) (hn7 : n ≤ 7) :
    Calls Try.prog 65 #[.int .i64 q, v, vg] w fun e w' => GivesS q rows goal w e w' := by
  obtain ⟨ao, m, cap, rfl, HN, hm⟩ := hr.shape
  obtain ⟨ag, n', cg, rfl, HM, hmx⟩ := hg.shape
  have hnn : n = n' := by rw [HM.out, hgg.1]
  subst hnn
  have hqp := hq.pos
  have hm6' : m ≤ 6 := by rw [HN.out]; exact hm6
  have HR := Lib.hid hr
  have HG := Lib.hid hg
  have HGR := Lib.hid hgr
  have HGG := Lib.hid hgg
  have HQ := Lib.hid hq
  clear hr hg hgr hgg hq hm6
  go_enter Try.func65, Try.ntmps65
  go_wp2_with fail
  go_loopw [9, 10] (fun t i wz => ∃ (c : Nat) (vs : List Value), i = .int .i64 c ∧ c ≤ n ∧ OwnR wz 23 3 t vs (augTo rows goal c) ∧ FromR w.heap.size t vs (augTo rows goal c) ∧ New w wz) (fun _ i _ => n - (intOf i).toNat)
  case atStart => exact ⟨0, [], rfl, Nat.zero_le _, ⟨Own.empty _ _, rfl, fun i hi => by simp [augTo] at hi, fun i j hi => by simp [augTo] at hi⟩, ⟨From.new _ _ _, fun i hi => by simp [augTo] at hi⟩, New.alloc _ _⟩
  case round =>
    obtain ⟨c, vs, rfl, hc, hown, hfrom, hnew⟩ := hrel
    have HO := Lib.hid hown
    have HF := Lib.hid hfrom
    have HZ := Lib.hid hnew
    clear hown hfrom hnew
    obtain ⟨wz, hwz⟩ : ∃ wz : World, wz = wr := ⟨_, rfl⟩
    rw [← hwz] at HO HZ
    rw [← hwz]
    clear hwz
    obtain ⟨ax, lx, cx, rfl, HLX, hlx, _⟩ := HO.out.outer.opened (by rw [HO.out.len, augTo_length]; unfold Mid; omega)
    by_cases hcn : c < n
    · go_wp2_with fail
      go_loopw [11, 12] (fun t i wy => ∃ (j : Nat), i = .int .i64 j ∧ j ≤ m ∧ Own wy 3 t ((tab j (fun l => gi (gr rows l) c)).map (Value.int .i64)) ∧ From wz.heap.size t ∧ New wz wy) (fun _ i _ => m - (intOf i).toNat)
      case atStart => exact ⟨0, rfl, Nat.zero_le _, Own.empty _ _, From.new _ _ _, New.alloc _ _⟩
      case round =>
        obtain ⟨j, rfl, hj, hown, hfrom, hnew⟩ := hrel
        have hlj : ((tab j (fun l => gi (gr rows l) c)).map (Value.int .i64)).length = j := by rw [List.length_map, tab_length]
        obtain ⟨a8, l8, c8, rfl, HL8, _, _⟩ := hown.opened (by rw [hlj]; unfold Mid; omega)
        have HP := Lib.hid (And.intro hown (And.intro hfrom hnew))
        have hlen : ((tab j (fun l => gi (gr rows l) c)).map (Value.int .i64)).length + 1 ≤ 1099511627776 := by rw [hlj]; omega
        by_cases hjm : j < m
        · obtain ⟨b, o, u, rfl, ck, hu⟩ := (HR.out.new (HZ.out.trans hnew)).at hjm
          obtain ⟨au, nu, cu, rfl, HNU, hnu⟩ := hu.shape
          have hnu' : n = nu := by rw [HNU.out, (HGR.out j (by rw [← HN.out]; exact hjm)).1]
          subst hnu'
          obtain ⟨bx, ox, rfl, cxx⟩ := hu.at hcn
          have HJ := Lib.hid hlj
          clear hown hfrom hnew hu hlj
          go_wp2_with (at_builtin; refine wpList_app1 rfl _ _ _ rfl tyInt wr HP.out.1 rfl _ _ rfl rfl rfl hlen ?_; intro v2 w2 k1 k2 k3; have K2 := Lib.hid (And.intro k1 (And.intro k2 k3)); clear k1 k2 k3)
          go_roundw
          case rel =>
            obtain ⟨k1, k2, k3⟩ := K2.out
            exact ⟨j + 1, by go_num, by omega, by rw [tab_succ, List.map_append]; exact k1, (fun g hg => by
              rcases k3 g hg with x | x
              · exact HP.out.2.1 g x
              · exact Nat.le_trans HP.out.2.2.size x), HP.out.2.2.then k2 (fun i hi => HP.out.2.1 i hi)⟩
          case measure => simp [intOf]; omega
        · obtain rfl : j = m := by omega
          obtain ⟨bg, og, rfl, cgx⟩ := (HG.out.new (HZ.out.trans hnew)).at hcn
          have hlv : vs.length + 1 ≤ 1099511627776 := by rw [HO.out.len, augTo_length]; omega
          have HJ := Lib.hid hlj
          clear hown hfrom hnew hlj
          go_wp2_with (first
            | (at_builtin; refine wpList_app1 rfl (.tmp 43) (.tmp 48) _ rfl tyInt wr HP.out.1 rfl _ _ rfl rfl rfl hlen ?_; intro v2 w2 k1 k2 k3; obtain ⟨a2, l2, c2, rfl, _, _, _⟩ := k1.opened (by rw [List.length_append, HJ.out]; unfold Mid; simp; omega); have K2 := Lib.hid (And.intro k1 (And.intro k2 k3)); clear k1 k2 k3)
            | (at_builtin; refine wpList_app1 rfl (.tmp 42) (.tmp 50) _ rfl tyRow w2 (HO.out.outer.new (HP.out.2.2.then K2.out.2.1 (fun i hi => HP.out.2.1 i hi))) rfl _ _ rfl rfl rfl hlv ?_; intro v3 w3 k1 k2 k3; have K3 := Lib.hid (And.intro k1 (And.intro k2 k3)); clear k1 k2 k3))
          go_roundw
          case rel =>
            obtain ⟨k1, k2, k3⟩ := K2.out
            obtain ⟨m1, m2, m3⟩ := K3.out
            have hn2 := HP.out.2.2.then k2 (fun i hi => HP.out.2.1 i hi)
            have hk1 : Own w2 3 (.slice a2 l2 c2) ((augRow rows goal c).map (Value.int .i64)) := by
              rw [augRow_end, List.map_append, ← HN.out]; exact k1
            have hfr : From wz.heap.size (.slice a2 l2 c2) := fun g hg => by
              rcases k3 g hg with x | x
              · exact HP.out.2.1 g x
              · exact Nat.le_trans HP.out.2.2.size x
            obtain ⟨p1, p2, p3⟩ := OwnR.push HO.out HF.out HZ.out.size hn2 hk1 hfr m1 m2 m3
            refine ⟨c + 1, vs ++ [Value.slice a2 l2 c2], by go_num, by omega, ?_, ?_, New.then HZ.out p3 (fun i hi => HF.out.1 i hi)⟩
            · rw [augTo_succ]; exact p1
            · rw [augTo_succ]; exact p2
          case measure => simp [intOf]; omega
    · obtain rfl : c = n := by omega
      have hall : augTo rows goal c = augAll rows goal := by unfold augTo augAll; rw [HGG.out.1]
      have hag := augAll_good HGR.out HGG.out
      have hal : (augAll rows goal).length = c := by rw [augAll_length, HGG.out.1]
      have hia : IsR wz (.slice ax lx cx) (augAll rows goal) := by
        have h := HO.out
        rw [hall] at h
        exact h.isR (by unfold Mid; omega) (fun i hi => by rw [(hag i hi).1, ← HN.out]; unfold Mid; omega)
      have HIA := Lib.hid (And.intro hia (And.intro hag hal))
      clear hia hag hal hall
      go_wp2_with fail
      refine (reduce_any q HQ.out (rows.length + 1) (by rw [← HN.out]; omega) _ (augAll rows goal) _ HIA.out.1 HIA.out.2.1 (by have := HIA.out.2.2; omega)).mono ?_
      rintro e w1 ⟨ua, vsa, a, rfl, hoa, hfa, hred, hn1w⟩
      have hale := hred.le_cols
      rw [← HN.out] at hale hred
      have hspec := fun h => spec_sol HQ.out HGR.out HGG.out (a := a) h
      rw [← HN.out] at hspec
      have hspec := hspec hred
      obtain ⟨aa, na, ca, rfl, HA, hna, _⟩ := hoa.outer.opened (by rw [hoa.len]; unfold Mid; omega)
      have hna7 : na ≤ 7 := by rw [HA.out, hoa.len]; omega
      have hnae : na = a.length := by rw [HA.out, hoa.len]
      have hix : IsR w1 (.slice aa na ca) a := hoa.isR (by unfold Mid; omega) (fun i hi => by rw [(hred.inv.good i hi).1]; unfold Mid; omega)
      have HIX := Lib.hid hix
      have HRED := Lib.hid hred
      have HNA := Lib.hid hnae
      have HSP := Lib.hid hspec
      have HN1 := Lib.hid (HZ.out.trans hn1w)
      clear hoa hfa hred hn1w hix hnae hspec HIA
      go_wp2_with (at_make; refine wpList_mk rfl _ _ _ rfl tyInt _ _ _ _ m m rfl rfl rfl rfl (Nat.le_refl _) hm ?_; intro v3 w3 hv3 ho3 hn3 hs3; subst hv3; have HO3 := Lib.hid ho3; have HN3 := Lib.hid hn3; have HS3 := Lib.hid hs3; clear ho3 hn3 hs3)
      go_loopw [15] (fun i wr => ∃ r : Nat, i = .int .i64 r ∧ r ≤ na ∧ Own wr 3 (.slice (some ⟨w1.heap.size, 0, none⟩) m m) ((tab m (sfTo m a r)).map (Value.int .i64)) ∧ New w1 wr ∧ w1.heap.size < wr.heap.size ∧ Hid (∀ j, j < r → ldN (gr a j) ≠ m)) (fun i _ => na - (intOf i).toNat)
      case atStart =>
        refine ⟨0, rfl, Nat.zero_le _, ?_, HN3.out, HS3.out, fun j hj => by omega⟩
        rw [tab_congr (g := fun _ => 0) (fun i _ => by simp [sfTo, ldIx]), tab_zero, List.map_replicate]
        exact HO3.out
      case round =>
        obtain ⟨r, rfl, hr, hown, hnew, hsz, HNO⟩ := hrel
        have HO := Lib.hid hown
        have HWR := Lib.hid hnew
        clear hown hnew
        obtain ⟨wq, hwq⟩ : ∃ wq : World, wq = wr := ⟨_, rfl⟩
        rw [← hwq] at HO HWR hsz
        rw [← hwq]
        clear hwq
        by_cases hrn : r < na
        · have hra : r < a.length := by rw [← HNA.out]; exact hrn
          obtain ⟨br, or', ur, rfl, cr, hur⟩ := HIX.out.at hrn
          obtain ⟨ar, nr, cpr, rfl, HNR, hnr⟩ := hur.shape
          have hg := HRED.out.inv.good r hra
          have hnre : nr = m + 1 := by rw [HNR.out, hg.1]
          subst hnre
          have HU := Lib.hid hur
          have HG := Lib.hid hg
          clear hur hg
          go_wp2_with fail
          go_loopw [16] (fun t wr => ((∃ j : Nat, t = .int .i64 j ∧ j ≤ m ∧ Hid (j < m → ldN (gr a r) ≠ m) ∧ Own wr 3 (.slice (some ⟨w1.heap.size, 0, none⟩) m m) ((tab m (fun c => if j + 1 ≤ c ∧ ldN (gr a r) = c then gi (gr a r) m else sfTo m a r c)).map (Value.int .i64))) ∨
            (t = .int .i64 (-1) ∧ Hid (ldN (gr a r) ≠ m) ∧ Own wr 3 (.slice (some ⟨w1.heap.size, 0, none⟩) m m) ((tab m (sfTo m a (r + 1))).map (Value.int .i64)))) ∧ New w1 wr ∧ w1.heap.size < wr.heap.size) (fun t _ => (intOf t + 1).toNat)
          case atStart =>
            refine ⟨.inl ⟨m, rfl, Nat.le_refl _, fun h => by omega, ?_⟩, HWR.out, hsz⟩
            rw [tab_congr (g := sfTo m a r) (fun i hi => by rw [if_neg (by omega)])]
            exact HO.out
          case round =>
            obtain ⟨hcase, hnew, hsz2⟩ := hrel
            have HWS := Lib.hid hnew
            clear hnew
            rcases hcase with ⟨j, rfl, hj, HJM, hown⟩ | ⟨rfl, HJM, hown⟩
            · have HJ := Lib.hid hown
              clear hown
              have cr' := HWS.out.cellNew cr
              have hjm1 : j < m + 1 := by omega
              obtain ⟨bx, ox, rfl, cx⟩ := (HU.out.new HWS.out).at hjm1
              obtain ⟨_, _, e1, cm⟩ := (HU.out.new HWS.out).at (i := m) (by omega)
              simp only [Option.some.injEq, Addr.mk.injEq, and_true] at e1
              obtain ⟨rfl, rfl⟩ := e1
              obtain ⟨x, hx⟩ : ∃ x, x = gi (gr a r) j := ⟨_, rfl⟩
              rw [← hx] at cx
              have HX := Lib.hid hx
              clear hx
              have hld := ldN_iff HG.out (HRED.out.inv.lead r hra) hjm1
              have HLD := Lib.hid hld
              clear hld
              -- what follows behind the round
              have hnext : ∀ (wz : World), (ldN (gr a r) ≠ m) → Own wz 3 (.slice (some ⟨w1.heap.size, 0, none⟩) m m) ((tab m (fun c => if j ≤ c ∧ ldN (gr a r) = c then gi (gr a r) m else sfTo m a r c)).map (Value.int .i64)) →
                  ((∃ j' : Nat, Value.int .i64 ((j : Int) - 1) = .int .i64 j' ∧ j' ≤ m ∧ Hid (j' < m → ldN (gr a r) ≠ m) ∧ Own wz 3 (.slice (some ⟨w1.heap.size, 0, none⟩) m m) ((tab m (fun c => if j' + 1 ≤ c ∧ ldN (gr a r) = c then gi (gr a r) m else sfTo m a r c)).map (Value.int .i64))) ∨
                  (Value.int .i64 ((j : Int) - 1) = .int .i64 (-1) ∧ Hid (ldN (gr a r) ≠ m) ∧ Own wz 3 (.slice (some ⟨w1.heap.size, 0, none⟩) m m) ((tab m (sfTo m a (r + 1))).map (Value.int .i64)))) := by
                intro wz hne hz
                cases j with
                | zero =>
                  refine .inr ⟨by apply val_int; omega, hne, ?_⟩
                  rw [tab_congr (g := sfTo m a (r + 1)) (fun i hi => by
                    rw [sfTo_succ]
                    by_cases e : ldN (gr a r) = i
                    · rw [if_pos ⟨Nat.zero_le _, e⟩, if_pos e]
                    · rw [if_neg (fun h => e h.2), if_neg e])] at hz
                  exact hz
                | succ j' => exact .inl ⟨j', by apply val_int; omega, by omega, fun _ => hne, hz⟩
              have HNX := Lib.hid hnext
              clear hnext
              by_cases hyes : ldN (gr a r) = j
              · -- the lead stands here
                have h01 := HLD.out.1 hyes
                have h0 : x ≠ 0 := by rw [HX.out]; exact h01.1
                have hb : ahB (gr a r) j = true := ahB_iff.2 h01.2
                have hd : decide (x = 0) = false := by simp; exact h0
                have hd2 : (x != 0) = true := by simp; exact h0
                have hjl : j ≤ (gr a r).length := by rw [HG.out.1]; omega
                have HYES := Lib.hid hyes
                have HB := Lib.hid hb
                clear hyes hb h01
                by_cases hje : j = m
                · -- the goal has a lead
                  have hnone : SolR q rows goal none := by
                    have h := HSP.out
                    rw [if_pos (ldIx_pos hra (by rw [HYES.out, hje]))] at h
                    exact h
                  have HNONE := Lib.hid hnone
                  have hd3 : ((j : Int) == (m : Int)) = true := by rw [hje]; simp
                  clear hnone hje HNX
                  go_wp2_with (go_at_call 95; refine (ahead_any _ (gr a r) j _ (HU.out.new HWS.out) hjl).mono ?_; rintro e w' ⟨rfl, rfl⟩; rw [HB.out])
                  go_ret2
                  exact ⟨_, [], false, rfl, Own.nil _ _, (fun g hg => by simp [Value.ownBlock] at hg), ⟨(fun h => by cases h), fun _ => ⟨rfl, HNONE.out⟩⟩, HN1.out.trans HWS.out⟩
                · have hjlt : j < m := by omega
                  have hd3 : ((j : Int) == (m : Int)) = false := by simp; omega
                  obtain ⟨cl, fl⟩ := HJ.out.cell (i := j) (by rw [List.length_map, tab_length]; exact hjlt)
                  clear hje
                  go_wp2_with (go_at_call 95; refine (ahead_any _ (gr a r) j _ (HU.out.new HWS.out) hjl).mono ?_; rintro e w' ⟨rfl, rfl⟩; rw [HB.out])
                  go_roundw
                  case rel =>
                    have hst := HJ.out.set j (.int .i64 (gi (gr a r) m))
                    rw [set_map_int, tab_set (g := fun c => if j ≤ c ∧ ldN (gr a r) = c then gi (gr a r) m else sfTo m a r c) (fun _ => if_pos ⟨Nat.le_refl _, HYES.out⟩) (fun i hi hne => by
                      by_cases c : j + 1 ≤ i ∧ ldN (gr a r) = i
                      · rw [if_pos c, if_pos ⟨by omega, c.2⟩]
                      · rw [if_neg c, if_neg (fun h => c ⟨by omega, h.2⟩)])] at hst
                    exact ⟨HNX.out _ (by rw [HYES.out]; omega) hst, HWS.out.then (Chg.setCell _ _ _) (fun i hi => Nat.le_of_eq hi.symm), by rw [World.size_setCell]; exact hsz2⟩
                  case measure => simp [intOf]
              · -- it does not
                have hnm : ldN (gr a r) ≠ m := by
                  by_cases e : j = m
                  · rw [← e]; exact hyes
                  · exact HJM.out (by omega)
                have hsame : Own wr 3 (.slice (some ⟨w1.heap.size, 0, none⟩) m m) ((tab m (fun c => if j ≤ c ∧ ldN (gr a r) = c then gi (gr a r) m else sfTo m a r c)).map (Value.int .i64)) := by
                  have h := HJ.out
                  rw [tab_congr (g := fun c => if j ≤ c ∧ ldN (gr a r) = c then gi (gr a r) m else sfTo m a r c) (fun i hi => by
                    by_cases e : i = j
                    · subst e; rw [if_neg (by omega), if_neg (fun h => hyes h.2)]
                    · by_cases c : j + 1 ≤ i ∧ ldN (gr a r) = i
                      · rw [if_pos c, if_pos ⟨by omega, c.2⟩]
                      · rw [if_neg c, if_neg (fun h => c ⟨by omega, h.2⟩)])] at h
                  exact h
                have HK := Lib.hid (HNX.out _ hnm hsame)
                have hjl : j ≤ (gr a r).length := by rw [HG.out.1]; omega
                clear hnm hsame HNX
                by_cases h0 : x = 0
                · subst h0
                  clear hyes
                  go_wp2_with fail
                  go_roundw
                  case rel => exact ⟨HK.out, HWS.out, hsz2⟩
                  case measure => simp [intOf]
                · have hd : decide (x = 0) = false := by simp; exact h0
                  have hd2 : (x != 0) = true := by simp; exact h0
                  have hb : ahB (gr a r) j = false := by
                    rw [Bool.eq_false_iff]
                    intro h
                    exact hyes (HLD.out.2 ⟨by rw [← HX.out]; exact h0, ahB_iff.1 h⟩)
                  have HB := Lib.hid hb
                  clear hyes hb
                  go_wp2_with (go_at_call 95; refine (ahead_any _ (gr a r) j _ (HU.out.new HWS.out) hjl).mono ?_; rintro e w' ⟨rfl, rfl⟩; rw [HB.out])
                  go_roundw
                  case rel => exact ⟨HK.out, HWS.out, hsz2⟩
                  case measure => simp [intOf]
            · have HJ := Lib.hid hown
              clear hown
              go_wp2_with fail
              go_roundw
              case rel => exact ⟨r + 1, by go_num, by omega, HJ.out, HWS.out, hsz2, fun j hj => by
                by_cases e : j = r
                · rw [e]; exact HJM.out
                · exact HNO.out j (by omega)⟩
              case measure => simp [intOf]; omega
        · have hre : na = r := by omega
          subst hre
          have hsome : SolR q rows goal (some (solF m a)) := by
            have h := HSP.out
            have hb := ldIx_bounds a m a.length
            rw [if_neg (fun h0 => HNO.out (ldIx a m a.length).toNat (by rw [HNA.out]; omega) (hb.2.2 h0))] at h
            exact h
          have hrow : Own wq 3 (.slice (some ⟨w1.heap.size, 0, none⟩) m m) ((solF m a).map (Value.int .i64)) := by
            have h := HO.out
            rw [HNA.out] at h
            exact h
          have HS := Lib.hid (And.intro hsome hrow)
          clear hsome hrow
          go_wp2_with fail
          go_ret2
          exact ⟨_, solF m a, true, rfl, HS.out.2, (fun g hg => by simp [Value.ownBlock] at hg; have := HN1.out.size; omega), ⟨fun _ => HS.out.1, (fun h => by cases h)⟩, HN1.out.trans HWR.out⟩
end Go.Proofs.Ytahgjfmdafhedaa

namespace Go.Proofs.Ytahgjfmdafhedaa
open Go.RowKit Mat
set_option linter.unusedVariables false

/-- The kept rows in memory, all below block B. -/
structure KMem (w : World) (B : Nat) (vk : Value) (pr : List (Value × Value)) (K : List RF) : Prop where
  outer : OwnP w 118 vk pr
  len : pr.length = K.length
  rows : ∀ j, j < K.length → Own w 3 (gp pr j).1 ((gk K j).1.map (Value.int .i64)) ∧ Own w 3 (gp pr j).2 ((gk K j).2.map (Value.int .i64))
  old : (∀ g, vk.ownBlock = some g → g < B) ∧ ∀ j, j < K.length → ∀ g, ((gp pr j).1.ownBlock = some g → g < B) ∧ ((gp pr j).2.ownBlock = some g → g < B)
theorem KMem.chg {S : Nat → Prop} {w w' : World} {B : Nat} {vk : Value} {pr : List (Value × Value)} {K : List RF} (h : KMem w B vk pr K) (hc : Chg S w w') (hS : ∀ g, S g → B ≤ g) : KMem w' B vk pr K :=
  ⟨h.outer.chg hc (fun g hg hs => by have := h.old.1 g hg; have := hS g hs; omega), h.len,
    fun j hj => ⟨(h.rows j hj).1.chg hc (fun g hg hs => by have := (h.old.2 j hj g).1 hg; have := hS g hs; omega), (h.rows j hj).2.chg hc (fun g hg hs => by have := (h.old.2 j hj g).2 hg; have := hS g hs; omega)⟩, h.old⟩
theorem KMem.new {w w' : World} {B : Nat} {vk : Value} {pr : List (Value × Value)} {K : List RF} (h : KMem w B vk pr K) (hc : New w w') : KMem w' B vk pr K := h.chg hc (fun _ x => x.elim)

set_option maxRecDepth 100000 in
set_option maxHeartbeats 4000000 in
theorem less_any (q : Nat) [NeZero q] (hq : Pr q) (n k : Nat) (rows : List (List Int)) (K : List RF) (x : RF) (B bk bp : Nat) (vk vr vf : Value) (pr : List (Value × Value)) (w : World) (hK : KInv q n rows k K) (hm : KMem w B vk pr K)
    (hx : GoodRow q n x.1) (hf : GoodRow q rows.length x.2) (hr : Own w 3 vr (x.1.map (Value.int .i64))) (hfm : Own w 3 vf (x.2.map (Value.int .i64))) (fr : From B vr) (ff : From B vf) (hap : Apart vr vf)
    (cbk : w.cell? ⟨bk, 0, none⟩ = some vk) (cbp : w.cell? ⟨bp, 0, none⟩ = some (.int .i64 q)) (hbk : bk < B) (hbp : bp < B) (hn : n ≤ 7) (hml : rows.length ≤ 7) (hkl : k ≤ 7) :
    Calls Try.prog 112 #[.agg #[vr, vf], .pointer (some ⟨bk, 0, none⟩), .pointer (some ⟨bp, 0, none⟩)] w fun e w' => e = .returned (.tuple #[]) ∧ Own w' 3 vr ((lessF q K x).1.map (Value.int .i64)) ∧ Own w' 3 vf ((lessF q K x).2.map (Value.int .i64)) ∧
      Chg (fun g => vr.ownBlock = some g ∨ vf.ownBlock = some g) w w' := by
  have hqp := hq.pos
  have hKl : K.length ≤ 7 := by have := hK.few; omega
  obtain ⟨ak, nk, ck, rfl, HNK, hnk, _⟩ := hm.outer.opened (by rw [hm.len]; unfold Mid; omega)
  have hnkK : nk = K.length := by rw [HNK.out, hm.len]
  obtain ⟨ar, nr, cr, rfl, HNR, hnr, _⟩ := hr.opened (by rw [List.length_map, hx.1]; unfold Mid; omega)
  have hnr' : nr = n := by rw [HNR.out, List.length_map, hx.1]
  subst hnr'
  obtain ⟨af, nf, cf, rfl, HNF, hnf, _⟩ := hfm.opened (by rw [List.length_map, hf.1]; unfold Mid; omega)
  have hal : New w (w.alloc (.cells #[.slice ar nr cr, .slice af nf cf] 118)) := New.alloc _ _
  obtain ⟨w1, hw1⟩ : ∃ w1 : World, w1 = w.alloc (.cells #[.slice ar nr cr, .slice af nf cf] 118) := ⟨_, rfl⟩
  have hb1 := Blk2.alloc w (.slice ar nr cr) (.slice af nf cf) 118
  rw [← hw1] at hal hb1
  have HW1 := Lib.hid hw1
  have HK := Lib.hid hK
  have HM := Lib.hid (hm.new hal)
  have HX := Lib.hid (And.intro hx hf)
  have HR := Lib.hid (hr.new hal)
  have HF := Lib.hid (hfm.new hal)
  have HFR := Lib.hid (And.intro fr (And.intro ff hap))
  have HRL := Lib.hid (And.intro (fun g (hg : (Value.slice ar nr cr).ownBlock = some g) => hr.lt hg) (fun g (hg : (Value.slice af nf cf).ownBlock = some g) => hfm.lt hg))
  have HNK2 := Lib.hid hnkK
  have HQ := Lib.hid hq
  have kbk := hal.cellNew cbk
  have kbp := hal.cellNew cbp
  have HAL := Lib.hid hal
  have hsk : bk < w.heap.size := World.block_lt_of_cell? _ _ cbk
  have hsp : bp < w.heap.size := World.block_lt_of_cell? _ _ cbp
  clear hw1 hK hm hx hf hr hfm fr ff hap hnkK hq hal kbk kbp
  go_enter Try.func112, Try.ntmps112
  go_wp2_with fail
  rw [← HW1.out]
  have kbk := HAL.out.cellNew cbk
  have kbp := HAL.out.cellNew cbp
  clear cbk cbp
  go_loopw [9] (fun t wr => ∃ j : Nat, t = .int .i64 j ∧ j ≤ nk ∧ Own wr 3 (.slice ar nr cr) ((lessF q (K.take j) x).1.map (Value.int .i64)) ∧ Own wr 3 (.slice af nf cf) ((lessF q (K.take j) x).2.map (Value.int .i64)) ∧ Chg (fun g => (Value.slice ar nr cr).ownBlock = some g ∨ (Value.slice af nf cf).ownBlock = some g) w1 wr) (fun t _ => nk - (intOf t).toNat)
  case atStart => exact ⟨0, rfl, Nat.zero_le _, by simpa [lessF] using HR.out, by simpa [lessF] using HF.out, Chg.refl _ _⟩
  case round =>
    obtain ⟨j, rfl, hj, hr, hf, hc⟩ := hrel
    by_cases hjn : j < nk
    · have hjK : j < K.length := by rw [← HNK2.out]; exact hjn
      have hB : ∀ g, ((Value.slice ar nr cr).ownBlock = some g ∨ (Value.slice af nf cf).ownBlock = some g) → B ≤ g := fun g hg => by
        rcases hg with h | h
        · exact HFR.out.1 g h
        · exact HFR.out.2.1 g h
      have hm := HM.out.chg hc hB
      have hb := hb1.chg hc (fun h => by rcases h with h | h; (have := HRL.out.1 _ h; omega); (have := HRL.out.2 _ h; omega))
      obtain ⟨d0, d1, _, _⟩ := hb.cells
      have kbk' := hc.cell kbk (fun h => by have := hB _ h; simp only at this; omega)
      have kbp' := hc.cell kbp (fun h => by have := hB _ h; simp only at this; omega)
      obtain ⟨gk', rfl⟩ := hm.outer.head (i := j) (by rw [hm.len]; exact hjK)
      obtain ⟨e0, e1⟩ := hm.outer.cell (i := j) (by rw [hm.len]; exact hjK)
      have hrj := hm.rows j hjK
      have hgj := HK.out.good j hjK
      obtain ⟨a1, n1, c1, h1, HN1, hn1, _⟩ := hrj.1.opened (by rw [List.length_map, hgj.1.1]; unfold Mid; omega)
      obtain ⟨a2, n2, c2, h2, HN2, hn2, _⟩ := hrj.2.opened (by rw [List.length_map, hgj.2.1]; unfold Mid; omega)
      rw [h1] at e0
      rw [h2] at e1
      go_wp2_with fail
      have hli := less_inv (by omega) HK.out HX.out.1 HX.out.2 j (by omega)
      have hgx := hli.1
      have hgf := hli.2.1
      obtain ⟨y, hy⟩ : ∃ y, y = lessF q (K.take j) x := ⟨_, rfl⟩
      rw [← hy] at hr hf hgx hgf
      obtain ⟨z, hz⟩ : ∃ z, z = gk K j := ⟨_, rfl⟩
      rw [← hz] at hrj hgj
      have hlz := lead_nat (by rw [hz]; exact HK.out.lead j hjK : 0 ≤ leadZ z.1)
      have hls := lead_some hgj.1 (by rw [hz]; exact HK.out.lead j hjK : 0 ≤ leadZ z.1)
      obtain ⟨l, hl⟩ : ∃ l, l = ldN z.1 := ⟨_, rfl⟩
      rw [← hl] at hlz hls
      have hln := hls.1
      obtain ⟨gx, rfl⟩ := hr.head (i := l) (by rw [List.length_map, hgx.1]; exact hln)
      have cx := hr.num (i := l) (by rw [hgx.1]; exact hln)
      have hbx := hgx.2 l hln
      obtain ⟨v, hv⟩ : ∃ v, v = gi y.1 l := ⟨_, rfl⟩
      rw [← hv] at cx hbx
      obtain ⟨wa, hwa⟩ : ∃ wa : World, wa = wr.alloc (.cells #[.slice a1 n1 c1, .slice a2 n2 c2] 118) := ⟨_, rfl⟩
      have hnwa : New wr wa := by rw [hwa]; exact New.alloc _ _
      have hba := Blk2.alloc wr (.slice a1 n1 c1) (.slice a2 n2 c2) 118
      rw [← hwa] at hba
      rw [← hwa]
      obtain ⟨f0, f1, _, _⟩ := hba.cells
      rw [h1] at hrj
      rw [h2] at hrj
      have hi1 : ∀ m, IsI (wa.drewN m) (.slice a1 n1 c1) z.1 := fun m => (hrj.1.isI (by rw [hgj.1.1]; unfold Mid; omega)).new (hnwa.trans (New.drewN _ _))
      have HI1 := Lib.hid hi1
      have HLZ := Lib.hid hlz
      have HV := Lib.hid hv
      have HY := Lib.hid hy
      have HZ := Lib.hid hz
      have HL := Lib.hid hl
      have HRJ := Lib.hid hrj
      have HGJ := Lib.hid hgj
      have HGX := Lib.hid (And.intro hgx hgf)
      have HRR := Lib.hid hr
      have HRF := Lib.hid hf
      have HCC := Lib.hid hc
      have HNWA := Lib.hid hnwa
      have HBB := Lib.hid hB
      have g0 := hnwa.cellNew d0
      have g1 := hnwa.cellNew d1
      have gx' := hnwa.cellNew cx
      have gbk := hnwa.cellNew kbk'
      have gbp := hnwa.cellNew kbp'
      have HAP := Lib.hid (And.intro h1 h2)
      have hgl : gx < w.heap.size := HRL.out.1 gx rfl
      have hgB : B ≤ gx := HFR.out.1 gx rfl
      have hs1 : w.heap.size < w1.heap.size := (Array.getElem?_eq_some_iff.1 hb1).1
      have hsr : w1.heap.size ≤ wr.heap.size := HCC.out.size
      have hafl : ∀ g, (Value.slice af nf cf).ownBlock = some g → g < w.heap.size ∧ B ≤ g ∧ g ≠ gx := fun g hg => ⟨HRL.out.2 g hg, HFR.out.2.1 g hg, fun e => HFR.out.2.2 gx rfl (by rw [← e]; exact hg)⟩
      have HAFL := Lib.hid hafl
      clear hi1 hlz hv hy hz hl hrj hgj hgx hgf hr hf hc hnwa hB d0 d1 cx kbk' kbp' e0 e1 hm hb hli hls hwa h1 h2 hba hafl
      go_quiet ((go_at_call 101; exact Calls.quiet_of_same ((lead_any _ _ _ (HI1.out _)).mono fun e w' h => ⟨by rw [h.1, HLZ.out], h.2.symm⟩)))
      go_wp2_with fail
      have hap : Apart (.slice (some ⟨gx, 0, none⟩) nr cr) (.slice a1 n1 c1) := fun g hg hx => by
        have h1 := HFR.out.1 g hg
        have h2 := (HM.out.old.2 j hjK g).1 (by rw [HAP.out.1]; exact hx)
        omega
      refine (add_any _ _ _ _ y.1 z.1 _ (by omega) (by omega) (HRR.out.new (HNWA.out.trans (New.drewN _ _))) (HI1.out _) hap (by rw [HGX.out.1.1, HGJ.out.1.1]; exact Nat.le_refl _) (HGX.out.1.sm (by omega)) (HGJ.out.1.sm (by omega)) (HGX.out.1.mid (by omega))).mono ?_
      rintro e w3 ⟨rfl, ho3, hc3⟩
      have hc13 : Chg (fun g => (Value.slice (some ⟨gx, 0, none⟩) nr cr).ownBlock = some g) wa w3 := Chg.trans (New.drewN _ _) hc3 (fun _ _ x => x.elim) (fun _ _ x => x)
      have k0 := hc13.cell g0 (fun h => by simp [Value.ownBlock] at h; omega)
      have k1 := hc13.cell g1 (fun h => by simp [Value.ownBlock] at h; omega)
      have m0 := hc13.cell f0 (fun h => by simp [Value.ownBlock] at h; omega)
      have m1 := hc13.cell f1 (fun h => by simp [Value.ownBlock] at h; omega)
      have kp := hc13.cell gbp (fun h => by simp [Value.ownBlock] at h; omega)
      have hf3 := (HRF.out.new HNWA.out).chg hc13 (fun g hg h => by have := (HAFL.out g hg).2.2; simp [Value.ownBlock] at h; omega)
      have hap2 : Apart (.slice af nf cf) (.slice a2 n2 c2) := fun g hg hx => by
        have h1 := (HAFL.out g hg).2.1
        have h2 := (HM.out.old.2 j hjK g).2 (by rw [HAP.out.2]; exact hx)
        omega
      have hi2 : IsI w3 (.slice a2 n2 c2) z.2 := ((HRJ.out.2.new HNWA.out).chg hc13 (fun g hg h => by
        have h2 := (HM.out.old.2 j hjK g).2 (by rw [HAP.out.2]; exact hg)
        simp [Value.ownBlock] at h
        omega)).isI (by rw [HGJ.out.2.1]; unfold Mid; omega)
      have HO3 := Lib.hid (And.intro ho3 (And.intro hc13 (And.intro hf3 (And.intro hap2 hi2))))
      clear hap ho3 hc3 hc13 hf3 hap2 hi2 g0 g1 f0 f1 gbp gbk gx'
      go_wp2_with fail
      refine (add_any _ _ _ _ y.2 z.2 _ (by omega) (by omega) HO3.out.2.2.1 HO3.out.2.2.2.2 HO3.out.2.2.2.1 (by rw [HGX.out.2.1, HGJ.out.2.1]; exact Nat.le_refl _) (HGX.out.2.sm (by omega)) (HGJ.out.2.sm (by omega)) (HGX.out.2.mid (by omega))).mono ?_
      rintro e w4 ⟨rfl, ho4, hc4⟩
      have hr4 := HO3.out.1.chg hc4 (fun g hg h => by have := (HAFL.out g h).2.2; simp [Value.ownBlock] at hg; omega)
      have H4 := Lib.hid (And.intro hr4 (And.intro ho4 hc4))
      clear ho4 hc4 hr4
      go_wp2_with fail
      go_roundw
      case rel =>
        have e1 : lessF q (K.take (j + 1)) x = (addZ q y.1 (-v) z.1, addZ q y.2 (-v) z.2) := by
          rw [take_succ_gk hjK, lessF_snoc, ← HY.out, ← HZ.out, offF, ← HL.out, ← HV.out]
        refine ⟨j + 1, by go_num, by omega, ?_, ?_, ?_⟩
        · rw [e1]; exact H4.out.1
        · rw [e1]; exact H4.out.2.1
        · exact Chg.trans HCC.out (Chg.trans HNWA.out (Chg.trans HO3.out.2.1 H4.out.2.2 (U := fun g => (Value.slice (some ⟨gx, 0, none⟩) nr cr).ownBlock = some g ∨ (Value.slice af nf cf).ownBlock = some g) (fun _ _ x => .inl x) (fun _ _ x => .inr x)) (U := fun g => (Value.slice (some ⟨gx, 0, none⟩) nr cr).ownBlock = some g ∨ (Value.slice af nf cf).ownBlock = some g) (fun _ _ x => x.elim) (fun _ _ x => x)) (fun _ _ x => x) (fun _ _ x => x)
      case measure => simp [intOf]; omega
    · obtain rfl : j = nk := by omega
      have e : K.take j = K := List.take_of_length_le (by rw [← HNK2.out]; exact Nat.le_refl _)
      rw [e] at hr hf
      have HE := Lib.hid (And.intro hr (And.intro hf (Chg.trans HAL.out hc (U := fun g => (Value.slice ar nr cr).ownBlock = some g ∨ (Value.slice af nf cf).ownBlock = some g) (fun _ _ x => x.elim) (fun _ _ x => x))))
      clear hr hf hc
      go_wp2_with fail
      go_end0
      exact ⟨rfl, HE.out⟩
end Go.Proofs.Ytahgjfmdafhedaa

/- impl.answer: the program's answer to a line. -/
import Derived.Test.YtcdbeepphdfipaaGreatDoorOneG
import Derived.Test.YtcdbeepphdfipaaGreatDoorAnsP
import Derived.Test.YtcdbeepphdfipaaGreatDoorSeqG
import Derived.Test.YtcdbeepphdfipaaGreatDoorImpP
import Derived.Test.YtcdbeepphdfipaaGreatDoorMut
namespace Go.Proofs.YtcdbeepphdfipaaGreatDoor
open Go.RowKit
set_option linter.unusedVariables false

theorem zeroF1 (w : World) : (zeroValue 32).run Tryz.prog w = .ok .nilFunc w := by kernel_rfl
theorem zeroF2 (w : World) : (zeroValue 101).run Tryz.prog w = .ok .nilFunc w := by kernel_rfl
def fnV (n : Nat) : Value := .func (.func n) #[] #[]
/-- The program's two maps. -/
def mapA (y : List UInt8) : Option Value := if y = cPlain then some (fnV 89) else if y = cBest then some (fnV 86) else if y = cDist then some (fnV 84) else none
def mapB (y : List UInt8) : Option Value := if y = cMend then some (fnV 92) else if y = cSend then some (fnV 91) else none

theorem getD_lt {l : List (List UInt8)} {i : Nat} (h : i < l.length) : l.getD i [] = l[i] := by
  rw [List.getD_eq_getElem?_getD, List.getElem?_eq_getElem h]; rfl
theorem ParseR.midP {s : List UInt8} {p : Int} {rows : List (List Int)} {ok : Bool} (h : ParseR s p rows ok) : Mid rows.length ∧ ∀ i, i < rows.length → Mid (gr rows i).length := by
  cases ok with
  | true =>
    have hd := (h.1 rfl).1.digs
    exact ⟨by unfold Mid; omega, fun i hi => by have := hd.2.2.2.2 i hi; unfold Mid; omega⟩
  | false =>
    obtain ⟨_, h, _⟩ := h.2 rfl
    rw [h]
    exact ⟨by unfold Mid; simp, fun i hi => by simp at hi⟩

theorem AnsW.what {ws : List (List UInt8)} (h1 : ¬ IsOne ws) (h2 : ¬ IsTwo ws) : AnsW ws cWhat := ⟨fun _ _ => rfl, fun h => absurd h h1, fun h => absurd h h2⟩
theorem not_both {ws : List (List UInt8)} (h1 : IsOne ws) (h2 : IsTwo ws) : False := by have := h1.1; have := h2.1; omega
theorem AnsW.ofOne {ws : List (List UInt8)} {t : List UInt8} {p : Int} {rows : List (List Int)} {ok : Bool} (h : IsOne ws) (hp : ParseR (ws.getD 1 []) p rows ok) (h1 : ok = false → t = cWrong) (h2 : ok = true → OneR (ws.getD 0 []) p rows t) : AnsW ws t :=
  ⟨fun k => absurd h k, fun _ => ⟨p, rows, ok, hp, h1, h2⟩, fun k => (not_both h k).elim⟩
theorem AnsW.ofTwo {ws : List (List UInt8)} {t : List UInt8} {p : Int} {rows : List (List Int)} {ok : Bool} (h : IsTwo ws) (hp : ParseR (ws.getD 1 []) p rows ok) (h1 : ok = false → t = cWrong) (h2 : ok = true → TwoR (ws.getD 0 []) p rows (sUn (ws.getD 2 [])) t) : AnsW ws t :=
  ⟨fun _ k => absurd h k, fun k => (not_both k h).elim, fun _ => ⟨p, rows, ok, hp, h1, h2⟩⟩
theorem OneR.dist {c t : List UInt8} {p : Int} {rows : List (List Int)} (h : c = cDist) (hq : ∃ d, DistR p rows d ∧ t = [digB d]) : OneR c p rows t := by
  subst h
  exact ⟨fun _ => hq, fun e => absurd e (by decide), fun e => absurd e (by decide)⟩
theorem OneR.best {c t : List UInt8} {p : Int} {rows : List (List Int)} (h : c = cBest) (hq : (IsBestC p rows → t = cYes) ∧ (¬ IsBestC p rows → t = cNo)) : OneR c p rows t := by
  subst h
  exact ⟨fun e => absurd e (by decide), fun _ => hq, fun e => absurd e (by decide)⟩
theorem OneR.plain {c t : List UInt8} {p : Int} {rows : List (List Int)} (h : c = cPlain) (hq : ∃ p' out, PlainQ p rows p' out ∧ TxtR p' out (bs t)) : OneR c p rows t := by
  subst h
  exact ⟨fun e => absurd e (by decide), fun e => absurd e (by decide), fun _ => hq⟩
/-- What send tells. -/
def SendT (p : Int) (rows : List (List Int)) (xs : List Int) (t : List UInt8) (fine : Bool) : Prop := (MsgC p rows xs → fine = true ∧ t = rowT (encZ p (gr rows 0).length rows xs xs.length)) ∧ (¬ MsgC p rows xs → fine = false)
theorem TwoR.sendYes {c t u : List UInt8} {p : Int} {rows : List (List Int)} (h : c = cSend) (hv : ValidC p rows) (hq : SendT p rows (nUn u) t true) : TwoR c p rows (sUn u) t := by
  subst h
  have hm : MsgC p rows (nUn u) := by
    apply Classical.byContradiction
    intro hn
    exact absurd (hq.2 hn) (by decide)
  have e := MsgC.same.1 hm
  refine ⟨fun _ => ⟨fun _ => by rw [← e]; exact (hq.1 hm).2, fun hn => absurd (by rw [← e]; exact hm) hn⟩, fun e => absurd e (by decide)⟩
theorem TwoR.sendNo {c t u : List UInt8} {p : Int} {rows : List (List Int)} (h : c = cSend) (hv : ValidC p rows) (hq : SendT p rows (nUn u) t false) : TwoR c p rows (sUn u) cWrong := by
  subst h
  have hm : ¬ MsgC p rows (nUn u) := fun hm => absurd (hq.1 hm).1 (by decide)
  refine ⟨fun _ => ⟨fun k => absurd (by rw [MsgC.same.2 k]; exact k) hm, fun _ => rfl⟩, fun e => absurd e (by decide)⟩
theorem TwoR.mendYes {c t u : List UInt8} {p : Int} {rows : List (List Int)} (h : c = cMend) (hv : ValidC p rows) (hq : MendT p rows (nUn u) t true) : TwoR c p rows (sUn u) t := by
  subst h
  have hm : LostC p rows (nUn u) := by
    apply Classical.byContradiction
    intro hn
    exact absurd (hq.1 hn) (by decide)
  have e := LostC.same.1 hm
  refine ⟨fun e => absurd e (by decide), fun _ => ⟨fun hn => absurd (by rw [← e]; exact hm) hn, fun _ => by rw [← e]; exact (hq.2 hm).2⟩⟩
theorem TwoR.mendNo {c t u : List UInt8} {p : Int} {rows : List (List Int)} (h : c = cMend) (hv : ValidC p rows) (hq : MendT p rows (nUn u) t false) : TwoR c p rows (sUn u) cWrong := by
  subst h
  have hm : ¬ LostC p rows (nUn u) := fun hm => absurd (hq.2 hm).1 (by decide)
  refine ⟨fun e => absurd e (by decide), fun _ => ⟨fun _ => rfl, fun k => absurd (by rw [LostC.same.2 k]; exact k) hm⟩⟩

set_option maxRecDepth 100000 in
set_option maxHeartbeats 8000000 in
theorem implAnswer_any (L : List UInt8) (w : World) (hL : L.length ≤ 1100000) (hv : ErrV w) (hm : MaxV w) :
    Calls Tryz.prog 49 #[.string (bs L)] w fun e w' => EndT w e w' (AnsW (splitB 32 L)) := by
  -- the two maps
  have u1 := Tryz.underlying100
  have u2 := Tryz.underlying102
  have uS := Tryz.underlying9
  obtain ⟨wa, ea, ma, ca⟩ := (MapS.made Tryz.prog 9 w).store uS u1 (by omega) cDist (by decide) (fnV 84)
  obtain ⟨wb, eb, mb, cb⟩ := ma.store uS u1 (by omega) cBest (by decide) (fnV 86)
  obtain ⟨wc, ec, mc, cc⟩ := mb.store uS u1 (by omega) cPlain (by decide) (fnV 89)
  obtain ⟨wd, ed, md, cd⟩ := (MapS.made Tryz.prog 9 wc).store uS u2 (by omega) cSend (by decide) (fnV 91)
  obtain ⟨we, ee, me, ce⟩ := md.store uS u2 (by omega) cMend (by decide) (fnV 92)
  replace ea : (Instr.mapUpdate 100 (.map (some w.heap.size)) (.string ⟨#[100, 105, 115, 116, 97, 110, 99, 101]⟩) (.func (.func 84) #[] #[])).run Tryz.prog (w.alloc (.map #[] 0)) = .ok () wa := ea
  replace eb : (Instr.mapUpdate 100 (.map (some w.heap.size)) (.string ⟨#[98, 101, 115, 116]⟩) (.func (.func 86) #[] #[])).run Tryz.prog wa = .ok () wb := eb
  replace ec : (Instr.mapUpdate 100 (.map (some w.heap.size)) (.string ⟨#[112, 108, 97, 105, 110]⟩) (.func (.func 89) #[] #[])).run Tryz.prog wb = .ok () wc := ec
  replace ed : (Instr.mapUpdate 102 (.map (some wc.heap.size)) (.string ⟨#[115, 101, 110, 100]⟩) (.func (.func 91) #[] #[])).run Tryz.prog (wc.alloc (.map #[] 0)) = .ok () wd := ed
  replace ee : (Instr.mapUpdate 102 (.map (some wc.heap.size)) (.string ⟨#[109, 101, 110, 100]⟩) (.func (.func 92) #[] #[])).run Tryz.prog wd = .ok () we := ee
  have e1 := run_makeMap (P := Tryz.prog) 100 w
  have e2 := run_makeMap (P := Tryz.prog) 102 wc
  have nW : w.heap.size < (w.alloc (.map #[] 0)).heap.size := by rw [World.size_alloc]; omega
  have nc : New w wc := (((New.alloc w (.map #[] 0)).then ca (fun i hi => by omega)).then cb (fun i hi => by omega)).then cc (fun i hi => by omega)
  have sc : w.heap.size < wc.heap.size := by have := ca.size; have := cb.size; have := cc.size; omega
  have ne : New wc we := ((New.alloc wc (.map #[] 0)).then cd (fun i hi => by omega)).then ce (fun i hi => by omega)
  have M1 : Hid (MapS Tryz.prog 9 we w.heap.size 3 mapA) := mc.new ne
  have M2 : Hid (MapS Tryz.prog 9 we wc.heap.size 2 mapB) := me
  have NE := Lib.hid (nc.trans ne)
  have HV := Lib.hid (And.intro hv hm)
  have KS := Lib.hid (split_any L 32 we (by omega) (hm.new NE.out))
  have HL := Lib.hid hL
  obtain ⟨S, hS⟩ : ∃ S, S = bs L := ⟨_, rfl⟩
  rw [← hS] at KS ⊢
  clear hv hm ma mb mc md me ca cb cc cd ce nW nc ne uS hS hL
  go_enter Tryz.func49, Tryz.ntmps49
  go_wp2_with fail
  refine KS.out.mono ?_
  rintro e w6 ⟨vw, rfl, ho, hf, hn6⟩
  have hwl := splitB_len 32 L
  have hwn := splitB_ne 32 L
  obtain ⟨ws, hws⟩ : ∃ ws, ws = splitB 32 L := ⟨_, rfl⟩
  rw [← hws] at ho hwl hwn
  have HWS := Lib.hid hws
  have hsl : (strV ws).length = ws.length := by rw [strV, List.length_map]
  have h1 : 1 ≤ ws.length := by
    cases hc : ws with
    | nil => exact absurd hc hwn
    | cons a l => simp
  obtain ⟨g, cap, rfl, hcap, hmx⟩ := ho.shape (by intro h; rw [h] at hsl; simp at hsl; omega)
  rw [hsl] at ho hcap ⊢
  obtain ⟨n, hn⟩ : ∃ n, n = ws.length := ⟨_, rfl⟩
  rw [← hn] at ho hcap h1 ⊢
  have HN := Lib.hid hn
  have hcell : ∀ i, i < n → (strV ws).length = n → w6.cell? ⟨g, i, none⟩ = some (.string (bs (ws.getD i []))) := fun i hi _ => by
    rw [hn] at hi
    rw [(ho.cell (i := i) (by rw [hsl]; exact hi)).1, gv_strV hi, getD_lt hi]
  have HCL : Hid (∀ i, i < n → w6.cell? ⟨g, i, none⟩ = some (.string (bs (ws.getD i [])))) := fun i hi => hcell i hi (by rw [hsl, hn])
  have hlw : ∀ i, (ws.getD i []).length ≤ L.length := fun i => by
    by_cases hi : i < ws.length
    · rw [getD_lt hi]; exact hwl.2 _ (List.getElem_mem hi)
    · rw [List.getD_eq_getElem?_getD, List.getElem?_eq_none (by omega)]; simp
  have HLW : Hid (∀ i, (ws.getD i []).length ≤ 1100000) := fun i => Nat.le_trans (hlw i) HL.out
  have H6 := Lib.hid (And.intro hn6 (NE.out.trans hn6))
  have l1 := (M1.out.new hn6).look Tryz.underlying9 u1 (zeroF1 _) (ws.getD 0 []) (by have := HLW.out 0; omega)
  have l2 := (M2.out.new hn6).look Tryz.underlying9 u2 (zeroF2 _) (ws.getD 0 []) (by have := HLW.out 0; omega)
  have c0 := HCL.out 0 (by omega)
  obtain ⟨Z0, hZ0⟩ : ∃ Z, Z = bs (ws.getD 0 []) := ⟨_, rfl⟩
  rw [← hZ0] at l1 l2 c0
  have KP := Lib.hid (fun w hv => implParseCode_any (ws.getD 1 []) w (HLW.out 1) hv)
  obtain ⟨Z1, hZ1⟩ : ∃ Z, Z = bs (ws.getD 1 []) := ⟨_, rfl⟩
  rw [← hZ1] at KP
  have HZ1 := Lib.hid hZ1
  obtain ⟨W0, hW0⟩ : ∃ W, W = ws.getD 0 [] := ⟨_, rfl⟩
  rw [← hW0] at l1 l2
  have HW0 := Lib.hid hW0
  clear ho hf hn6 hws hwl hwn hsl hcap hmx hn hcell hlw hZ0 hZ1 hW0 e1 e2 ea eb ec ed ee u1 u2
  by_cases hcDist : W0 = cDist
  · have hA : mapA W0 = some (fnV 84) := by rw [hcDist]; rfl
    have hB : mapB W0 = none := by rw [hcDist]; rfl
    have e0 : ws.getD 0 [] = cDist := by rw [← HW0.out]; exact hcDist
    rw [hA] at l1
    rw [hB] at l2
    simp only [Option.getD, Option.isSome, fnV] at l1 l2
    clear hA hB
    by_cases hn2 : n = 2
    · have c1 := HCL.out 1 (by omega)
      rw [← HZ1.out] at c1
      go_wp2_with fail
      refine (KP.out w6 (HV.out.1.new H6.out.2)).mono ?_
      rintro e w7 ⟨u7, vs7, rows, p, ok, rfl, ho7, hf7, hp7, hn7⟩
      have hi7 := ho7.isR hp7.midP.1 hp7.midP.2
      obtain ⟨a7, l7, c7, rfl, _, _⟩ := hi7.shape
      have b8 := Blk2.alloc w7 (.int .i64 p) (.slice a7 l7 c7) 24
      have n8 := New.alloc w7 (.cells #[.int .i64 p, .slice a7 l7 c7] 24)
      obtain ⟨w8, hw8⟩ : ∃ w8, w8 = w7.alloc (.cells #[.int .i64 p, .slice a7 l7 c7] 24) := ⟨_, rfl⟩
      rw [← hw8] at b8 n8
      have n68 := hn7.trans n8
      have H8 := Lib.hid (And.intro (hi7.new n8) (And.intro b8 (And.intro (H6.out.2.trans n68) (And.intro hp7 n68))))
      clear ho7 hf7 hi7 hn7 n8 b8 hp7 c0 c1 l1 l2
      go_upto_region 10 with fail
      rw [← hw8]
      clear hw8
      cases ok with
      | false =>
        go_wp2_with fail
        go_ret
        exact ⟨cWrong, ret_sb rfl, by rw [← HWS.out]; exact AnsW.ofOne ⟨by rw [← HN.out]; exact hn2, .inl e0⟩ H8.out.2.2.2.1 (fun _ => rfl) (fun h => by cases h), H8.out.2.2.1⟩
      | true =>
        obtain ⟨q0, q1, _, _⟩ := H8.out.2.1.cells
        go_wp2_with fail
        refine (ansDist_any p _ rows _ H8.out.1 (H8.out.2.2.2.1.1 rfl).1).mono ?_
        rintro e w9 ⟨t, rfl, hq, hn9⟩
        have H9 := Lib.hid (And.intro hq hn9)
        clear hq hn9
        go_wp2_with fail
        go_ret
        exact ⟨t, rfl, by rw [← HWS.out]; exact AnsW.ofOne ⟨by rw [← HN.out]; exact hn2, .inl e0⟩ H8.out.2.2.2.1 (fun h => by cases h) (fun _ => OneR.dist e0 H9.out.1), H8.out.2.2.1.trans H9.out.2⟩
    · have hd2 : ((n : Int) == 2) = false := by simp; omega
      go_wp2_with fail
      go_ret
      exact ⟨cWhat, ret_sb rfl, by rw [← HWS.out]; exact AnsW.what (fun h => hn2 (by rw [HN.out]; exact h.1)) (fun h => by have h2 := h.2; rw [e0] at h2; revert h2; decide), H6.out.2⟩
  by_cases hcBest : W0 = cBest
  · have hA : mapA W0 = some (fnV 86) := by rw [hcBest]; rfl
    have hB : mapB W0 = none := by rw [hcBest]; rfl
    have e0 : ws.getD 0 [] = cBest := by rw [← HW0.out]; exact hcBest
    rw [hA] at l1
    rw [hB] at l2
    simp only [Option.getD, Option.isSome, fnV] at l1 l2
    clear hA hB
    by_cases hn2 : n = 2
    · have c1 := HCL.out 1 (by omega)
      rw [← HZ1.out] at c1
      go_wp2_with fail
      refine (KP.out w6 (HV.out.1.new H6.out.2)).mono ?_
      rintro e w7 ⟨u7, vs7, rows, p, ok, rfl, ho7, hf7, hp7, hn7⟩
      have hi7 := ho7.isR hp7.midP.1 hp7.midP.2
      obtain ⟨a7, l7, c7, rfl, _, _⟩ := hi7.shape
      have b8 := Blk2.alloc w7 (.int .i64 p) (.slice a7 l7 c7) 24
      have n8 := New.alloc w7 (.cells #[.int .i64 p, .slice a7 l7 c7] 24)
      obtain ⟨w8, hw8⟩ : ∃ w8, w8 = w7.alloc (.cells #[.int .i64 p, .slice a7 l7 c7] 24) := ⟨_, rfl⟩
      rw [← hw8] at b8 n8
      have n68 := hn7.trans n8
      have H8 := Lib.hid (And.intro (hi7.new n8) (And.intro b8 (And.intro (H6.out.2.trans n68) (And.intro hp7 n68))))
      clear ho7 hf7 hi7 hn7 n8 b8 hp7 c0 c1 l1 l2
      go_upto_region 10 with fail
      rw [← hw8]
      clear hw8
      cases ok with
      | false =>
        go_wp2_with fail
        go_ret
        exact ⟨cWrong, ret_sb rfl, by rw [← HWS.out]; exact AnsW.ofOne ⟨by rw [← HN.out]; exact hn2, .inr (.inl e0)⟩ H8.out.2.2.2.1 (fun _ => rfl) (fun h => by cases h), H8.out.2.2.1⟩
      | true =>
        obtain ⟨q0, q1, _, _⟩ := H8.out.2.1.cells
        go_wp2_with fail
        refine (ansBest_any p _ rows _ H8.out.1).mono ?_
        rintro e w9 ⟨t, rfl, hq, hn9⟩
        have H9 := Lib.hid (And.intro hq hn9)
        clear hq hn9
        go_wp2_with fail
        go_ret
        exact ⟨t, rfl, by rw [← HWS.out]; exact AnsW.ofOne ⟨by rw [← HN.out]; exact hn2, .inr (.inl e0)⟩ H8.out.2.2.2.1 (fun h => by cases h) (fun _ => OneR.best e0 H9.out.1), H8.out.2.2.1.trans H9.out.2⟩
    · have hd2 : ((n : Int) == 2) = false := by simp; omega
      go_wp2_with fail
      go_ret
      exact ⟨cWhat, ret_sb rfl, by rw [← HWS.out]; exact AnsW.what (fun h => hn2 (by rw [HN.out]; exact h.1)) (fun h => by have h2 := h.2; rw [e0] at h2; revert h2; decide), H6.out.2⟩
  by_cases hcPlain : W0 = cPlain
  · have hA : mapA W0 = some (fnV 89) := by rw [hcPlain]; rfl
    have hB : mapB W0 = none := by rw [hcPlain]; rfl
    have e0 : ws.getD 0 [] = cPlain := by rw [← HW0.out]; exact hcPlain
    rw [hA] at l1
    rw [hB] at l2
    simp only [Option.getD, Option.isSome, fnV] at l1 l2
    clear hA hB
    by_cases hn2 : n = 2
    · have c1 := HCL.out 1 (by omega)
      rw [← HZ1.out] at c1
      go_wp2_with fail
      refine (KP.out w6 (HV.out.1.new H6.out.2)).mono ?_
      rintro e w7 ⟨u7, vs7, rows, p, ok, rfl, ho7, hf7, hp7, hn7⟩
      have hi7 := ho7.isR hp7.midP.1 hp7.midP.2
      obtain ⟨a7, l7, c7, rfl, _, _⟩ := hi7.shape
      have b8 := Blk2.alloc w7 (.int .i64 p) (.slice a7 l7 c7) 24
      have n8 := New.alloc w7 (.cells #[.int .i64 p, .slice a7 l7 c7] 24)
      obtain ⟨w8, hw8⟩ : ∃ w8, w8 = w7.alloc (.cells #[.int .i64 p, .slice a7 l7 c7] 24) := ⟨_, rfl⟩
      rw [← hw8] at b8 n8
      have n68 := hn7.trans n8
      have H8 := Lib.hid (And.intro (hi7.new n8) (And.intro b8 (And.intro (H6.out.2.trans n68) (And.intro hp7 n68))))
      clear ho7 hf7 hi7 hn7 n8 b8 hp7 c0 c1 l1 l2
      go_upto_region 10 with fail
      rw [← hw8]
      clear hw8
      cases ok with
      | false =>
        go_wp2_with fail
        go_ret
        exact ⟨cWrong, ret_sb rfl, by rw [← HWS.out]; exact AnsW.ofOne ⟨by rw [← HN.out]; exact hn2, .inr (.inr e0)⟩ H8.out.2.2.2.1 (fun _ => rfl) (fun h => by cases h), H8.out.2.2.1⟩
      | true =>
        obtain ⟨q0, q1, _, _⟩ := H8.out.2.1.cells
        go_wp2_with fail
        refine (ansPlain_any p _ rows _ H8.out.1).mono ?_
        rintro e w9 ⟨t, rfl, hq, hn9⟩
        have H9 := Lib.hid (And.intro hq hn9)
        clear hq hn9
        go_wp2_with fail
        go_ret
        exact ⟨t, rfl, by rw [← HWS.out]; exact AnsW.ofOne ⟨by rw [← HN.out]; exact hn2, .inr (.inr e0)⟩ H8.out.2.2.2.1 (fun h => by cases h) (fun _ => OneR.plain e0 H9.out.1), H8.out.2.2.1.trans H9.out.2⟩
    · have hd2 : ((n : Int) == 2) = false := by simp; omega
      go_wp2_with fail
      go_ret
      exact ⟨cWhat, ret_sb rfl, by rw [← HWS.out]; exact AnsW.what (fun h => hn2 (by rw [HN.out]; exact h.1)) (fun h => by have h2 := h.2; rw [e0] at h2; revert h2; decide), H6.out.2⟩
  by_cases hcSend : W0 = cSend
  · have hA : mapA W0 = none := by rw [hcSend]; rfl
    have hB : mapB W0 = some (fnV 91) := by rw [hcSend]; rfl
    have e0 : ws.getD 0 [] = cSend := by rw [← HW0.out]; exact hcSend
    rw [hA] at l1
    rw [hB] at l2
    simp only [Option.getD, Option.isSome, fnV] at l1 l2
    clear hA hB
    by_cases hn3 : n = 3
    · have c1 := HCL.out 1 (by omega)
      rw [← HZ1.out] at c1
      go_wp2_with fail
      refine (KP.out w6 (HV.out.1.new H6.out.2)).mono ?_
      rintro e w7 ⟨u7, vs7, rows, p, ok, rfl, ho7, hf7, hp7, hn7⟩
      have hi7 := ho7.isR hp7.midP.1 hp7.midP.2
      obtain ⟨a7, l7, c7, rfl, _, _⟩ := hi7.shape
      have b8 := Blk2.alloc w7 (.int .i64 p) (.slice a7 l7 c7) 24
      have n8 := New.alloc w7 (.cells #[.int .i64 p, .slice a7 l7 c7] 24)
      obtain ⟨w8, hw8⟩ : ∃ w8, w8 = w7.alloc (.cells #[.int .i64 p, .slice a7 l7 c7] 24) := ⟨_, rfl⟩
      rw [← hw8] at b8 n8
      have n68 := hn7.trans n8
      have H8 := Lib.hid (And.intro (hi7.new n8) (And.intro b8 (And.intro (H6.out.2.trans n68) (And.intro hp7 n68))))
      clear ho7 hf7 hi7 hn7 n8 b8 hp7 c0 c1 l1 l2
      go_upto_region 10 with fail
      rw [← hw8]
      clear hw8
      cases ok with
      | false =>
        go_wp2_with fail
        go_ret
        exact ⟨cWrong, ret_sb rfl, by rw [← HWS.out]; exact AnsW.ofTwo ⟨by rw [← HN.out]; exact hn3, .inl e0⟩ H8.out.2.2.2.1 (fun _ => rfl) (fun h => by cases h), H8.out.2.2.1⟩
      | true =>
        have hM := H8.out.2.2.2.1.1 rfl
        obtain ⟨Z2, hZ2⟩ : ∃ Z, Z = bs (ws.getD 2 []) := ⟨_, rfl⟩
        have HC2 := Lib.hid (HCL.out 2 (by omega))
        rw [← hZ2] at HC2
        have HZ2 := Lib.hid hZ2
        clear hZ2
        go_upto_region 14 with fail
        refine wp_region_held_drew (S := fun w' => New w8 w') (by kernel_rfl) (New.drew _) (fun hY => ?_)
        refine held_take 0 (some 70) rfl rfl (by kernel_rfl) (by kernel_rfl) (by kernel_rfl) (fun _ _ _ h => h) rfl hY (v := .func (.func 91) #[] #[]) (fun w' hS => by skip; go_simp; try with_reducible rfl) ?_
        simp only [Act.put, List.setIfInBounds_toArray, List.set_cons_zero, List.set_cons_succ]
        refine held_take 1 (some 71) rfl rfl (by kernel_rfl) (by kernel_rfl) (by kernel_rfl) (fun _ _ _ h => h) rfl hY (v := .agg #[.int .i64 p, .slice a7 l7 c7]) (fun w' hS => by obtain ⟨q0, q1, _, _⟩ := (H8.out.2.1.new hS).cells; go_simp; try with_reducible rfl) ?_
        simp only [Act.put, List.setIfInBounds_toArray, List.set_cons_zero, List.set_cons_succ]
        refine held_take 2 (some 72) rfl rfl (by kernel_rfl) (by kernel_rfl) (by kernel_rfl) (fun _ _ _ h => h) rfl hY (v := ?_) (fun w' hS => by skip; go_simp; try with_reducible rfl) ?_
        simp only [Act.put, List.setIfInBounds_toArray, List.set_cons_zero, List.set_cons_succ]
        refine held_take 3 (some 73) rfl rfl (by kernel_rfl) (by kernel_rfl) (by kernel_rfl) (fun _ _ _ h => h) rfl hY (v := .pointer (some ⟨g, 2, none⟩)) (fun w' hS => by skip; go_simp; try with_reducible rfl) ?_
        simp only [Act.put, List.setIfInBounds_toArray, List.set_cons_zero, List.set_cons_succ]
        refine held_take 4 (some 74) rfl rfl (by kernel_rfl) (by kernel_rfl) (by kernel_rfl) (fun _ _ _ h => h) rfl hY (v := .string Z2) (fun w' hS => by have ck := (H8.out.2.2.2.2.trans hS).cellNew HC2.out; go_simp; try with_reducible rfl) ?_
        simp only [Act.put, List.setIfInBounds_toArray, List.set_cons_zero, List.set_cons_succ]
        refine held_only 5 (by kernel_rfl) rfl rfl (fun K1 hK1 => ?_)
        go_simp
        rw [HZ2.out]
        refine (implSend_any p _ rows (ws.getD 2 []) _ (H8.out.1.new (New.drew _)) (H8.out.2.2.2.1.1 rfl).1 (by have := HLW.out 2; omega)).mono ?_
        rintro e w9 ⟨t, fine, rfl, hq, hn9⟩
        replace hq : SendT p rows (nUn (ws.getD 2 [])) t fine := hq
        refine hK1.out _ _ (hY.trans hn9) (fun hY1 => ?_)
        clear hK1 K1
        have H9 := Lib.hid (And.intro hq (hY.trans hn9))
        clear hq hn9 hY
        obtain ⟨TB, hTB⟩ : ∃ T, T = bs t := ⟨_, rfl⟩
        rw [← hTB]
        have HTB := Lib.hid hTB
        clear hTB
        refine held_take 6 (some 69) rfl rfl (by kernel_rfl) (by kernel_rfl) (by kernel_rfl) (fun _ _ _ h => h) rfl hY1 (v := ?_) (fun w' hS => by skip; go_simp; try with_reducible rfl) ?_
        simp only [Act.put, List.setIfInBounds_toArray, List.set_cons_zero, List.set_cons_succ]
        refine held_take 7 (some 76) rfl rfl (by kernel_rfl) (by kernel_rfl) (by kernel_rfl) (fun _ _ _ h => h) rfl hY1 (v := ?_) (fun w' hS => by skip; go_simp; try with_reducible rfl) ?_
        simp only [Act.put, List.setIfInBounds_toArray, List.set_cons_zero, List.set_cons_succ]
        refine held_take 8 (some 77) rfl rfl (by kernel_rfl) (by kernel_rfl) (by kernel_rfl) (fun _ _ _ h => h) rfl hY1 (v := ?_) (fun w' hS => by skip; go_simp; try with_reducible rfl) ?_
        simp only [Act.put, List.setIfInBounds_toArray, List.set_cons_zero, List.set_cons_succ]
        refine held_take 9 (some 12) rfl rfl (by kernel_rfl) (by kernel_rfl) (by kernel_rfl) (fun _ _ _ h => h) rfl hY1 (v := ?_) (fun w' hS => by skip; go_simp; try with_reducible rfl) ?_
        simp only [Act.put, List.setIfInBounds_toArray, List.set_cons_zero, List.set_cons_succ]
        refine held_take 10 (some 13) rfl rfl (by kernel_rfl) (by kernel_rfl) (by kernel_rfl) (fun _ _ _ h => h) rfl hY1 (v := ?_) (fun w' hS => by skip; go_simp; try with_reducible rfl) ?_
        simp only [Act.put, List.setIfInBounds_toArray, List.set_cons_zero, List.set_cons_succ]
        refine wpAnyH_done (by kernel_rfl) ?_ _
        cases fine with
        | true =>
          go_wp2_with fail
          go_ret
          exact ⟨t, ret_sb HTB.out, by rw [← HWS.out]; exact AnsW.ofTwo ⟨by rw [← HN.out]; exact hn3, .inl e0⟩ H8.out.2.2.2.1 (fun h => by cases h) (fun _ => TwoR.sendYes e0 hM.1 H9.out.1), H8.out.2.2.1.trans H9.out.2⟩
        | false =>
          go_wp2_with fail
          go_ret
          exact ⟨cWrong, ret_sb rfl, by rw [← HWS.out]; exact AnsW.ofTwo ⟨by rw [← HN.out]; exact hn3, .inl e0⟩ H8.out.2.2.2.1 (fun h => by cases h) (fun _ => TwoR.sendNo e0 hM.1 H9.out.1), H8.out.2.2.1.trans H9.out.2⟩
    · have hd3 : ((n : Int) == 3) = false := by simp; omega
      go_wp2_with fail
      go_ret
      exact ⟨cWhat, ret_sb rfl, by rw [← HWS.out]; exact AnsW.what (fun h => by have h2 := h.2; rw [e0] at h2; revert h2; decide) (fun h => hn3 (by rw [HN.out]; exact h.1)), H6.out.2⟩
  by_cases hcMend : W0 = cMend
  · have hA : mapA W0 = none := by rw [hcMend]; rfl
    have hB : mapB W0 = some (fnV 92) := by rw [hcMend]; rfl
    have e0 : ws.getD 0 [] = cMend := by rw [← HW0.out]; exact hcMend
    rw [hA] at l1
    rw [hB] at l2
    simp only [Option.getD, Option.isSome, fnV] at l1 l2
    clear hA hB
    by_cases hn3 : n = 3
    · have c1 := HCL.out 1 (by omega)
      rw [← HZ1.out] at c1
      go_wp2_with fail
      refine (KP.out w6 (HV.out.1.new H6.out.2)).mono ?_
      rintro e w7 ⟨u7, vs7, rows, p, ok, rfl, ho7, hf7, hp7, hn7⟩
      have hi7 := ho7.isR hp7.midP.1 hp7.midP.2
      obtain ⟨a7, l7, c7, rfl, _, _⟩ := hi7.shape
      have b8 := Blk2.alloc w7 (.int .i64 p) (.slice a7 l7 c7) 24
      have n8 := New.alloc w7 (.cells #[.int .i64 p, .slice a7 l7 c7] 24)
      obtain ⟨w8, hw8⟩ : ∃ w8, w8 = w7.alloc (.cells #[.int .i64 p, .slice a7 l7 c7] 24) := ⟨_, rfl⟩
      rw [← hw8] at b8 n8
      have n68 := hn7.trans n8
      have H8 := Lib.hid (And.intro (hi7.new n8) (And.intro b8 (And.intro (H6.out.2.trans n68) (And.intro hp7 n68))))
      clear ho7 hf7 hi7 hn7 n8 b8 hp7 c0 c1 l1 l2
      go_upto_region 10 with fail
      rw [← hw8]
      clear hw8
      cases ok with
      | false =>
        go_wp2_with fail
        go_ret
        exact ⟨cWrong, ret_sb rfl, by rw [← HWS.out]; exact AnsW.ofTwo ⟨by rw [← HN.out]; exact hn3, .inr e0⟩ H8.out.2.2.2.1 (fun _ => rfl) (fun h => by cases h), H8.out.2.2.1⟩
      | true =>
        have hM := H8.out.2.2.2.1.1 rfl
        obtain ⟨Z2, hZ2⟩ : ∃ Z, Z = bs (ws.getD 2 []) := ⟨_, rfl⟩
        have HC2 := Lib.hid (HCL.out 2 (by omega))
        rw [← hZ2] at HC2
        have HZ2 := Lib.hid hZ2
        clear hZ2
        go_upto_region 14 with fail
        refine wp_region_held_drew (S := fun w' => New w8 w') (by kernel_rfl) (New.drew _) (fun hY => ?_)
        refine held_take 0 (some 70) rfl rfl (by kernel_rfl) (by kernel_rfl) (by kernel_rfl) (fun _ _ _ h => h) rfl hY (v := .func (.func 92) #[] #[]) (fun w' hS => by skip; go_simp; try with_reducible rfl) ?_
        simp only [Act.put, List.setIfInBounds_toArray, List.set_cons_zero, List.set_cons_succ]
        refine held_take 1 (some 71) rfl rfl (by kernel_rfl) (by kernel_rfl) (by kernel_rfl) (fun _ _ _ h => h) rfl hY (v := .agg #[.int .i64 p, .slice a7 l7 c7]) (fun w' hS => by obtain ⟨q0, q1, _, _⟩ := (H8.out.2.1.new hS).cells; go_simp; try with_reducible rfl) ?_
        simp only [Act.put, List.setIfInBounds_toArray, List.set_cons_zero, List.set_cons_succ]
        refine held_take 2 (some 72) rfl rfl (by kernel_rfl) (by kernel_rfl) (by kernel_rfl) (fun _ _ _ h => h) rfl hY (v := ?_) (fun w' hS => by skip; go_simp; try with_reducible rfl) ?_
        simp only [Act.put, List.setIfInBounds_toArray, List.set_cons_zero, List.set_cons_succ]
        refine held_take 3 (some 73) rfl rfl (by kernel_rfl) (by kernel_rfl) (by kernel_rfl) (fun _ _ _ h => h) rfl hY (v := .pointer (some ⟨g, 2, none⟩)) (fun w' hS => by skip; go_simp; try with_reducible rfl) ?_
        simp only [Act.put, List.setIfInBounds_toArray, List.set_cons_zero, List.set_cons_succ]
        refine held_take 4 (some 74) rfl rfl (by kernel_rfl) (by kernel_rfl) (by kernel_rfl) (fun _ _ _ h => h) rfl hY (v := .string Z2) (fun w' hS => by have ck := (H8.out.2.2.2.2.trans hS).cellNew HC2.out; go_simp; try with_reducible rfl) ?_
        simp only [Act.put, List.setIfInBounds_toArray, List.set_cons_zero, List.set_cons_succ]
        refine held_only 5 (by kernel_rfl) rfl rfl (fun K1 hK1 => ?_)
        go_simp
        rw [HZ2.out]
        refine (implMend_any p _ rows (ws.getD 2 []) _ (H8.out.1.new (New.drew _)) (H8.out.2.2.2.1.1 rfl).1 (by have := HLW.out 2; omega)).mono ?_
        rintro e w9 ⟨t, fine, rfl, hq, hn9⟩
        replace hq : MendT p rows (nUn (ws.getD 2 [])) t fine := hq
        refine hK1.out _ _ (hY.trans hn9) (fun hY1 => ?_)
        clear hK1 K1
        have H9 := Lib.hid (And.intro hq (hY.trans hn9))
        clear hq hn9 hY
        obtain ⟨TB, hTB⟩ : ∃ T, T = bs t := ⟨_, rfl⟩
        rw [← hTB]
        have HTB := Lib.hid hTB
        clear hTB
        refine held_take 6 (some 69) rfl rfl (by kernel_rfl) (by kernel_rfl) (by kernel_rfl) (fun _ _ _ h => h) rfl hY1 (v := ?_) (fun w' hS => by skip; go_simp; try with_reducible rfl) ?_
        simp only [Act.put, List.setIfInBounds_toArray, List.set_cons_zero, List.set_cons_succ]
        refine held_take 7 (some 76) rfl rfl (by kernel_rfl) (by kernel_rfl) (by kernel_rfl) (fun _ _ _ h => h) rfl hY1 (v := ?_) (fun w' hS => by skip; go_simp; try with_reducible rfl) ?_
        simp only [Act.put, List.setIfInBounds_toArray, List.set_cons_zero, List.set_cons_succ]
        refine held_take 8 (some 77) rfl rfl (by kernel_rfl) (by kernel_rfl) (by kernel_rfl) (fun _ _ _ h => h) rfl hY1 (v := ?_) (fun w' hS => by skip; go_simp; try with_reducible rfl) ?_
        simp only [Act.put, List.setIfInBounds_toArray, List.set_cons_zero, List.set_cons_succ]
        refine held_take 9 (some 12) rfl rfl (by kernel_rfl) (by kernel_rfl) (by kernel_rfl) (fun _ _ _ h => h) rfl hY1 (v := ?_) (fun w' hS => by skip; go_simp; try with_reducible rfl) ?_
        simp only [Act.put, List.setIfInBounds_toArray, List.set_cons_zero, List.set_cons_succ]
        refine held_take 10 (some 13) rfl rfl (by kernel_rfl) (by kernel_rfl) (by kernel_rfl) (fun _ _ _ h => h) rfl hY1 (v := ?_) (fun w' hS => by skip; go_simp; try with_reducible rfl) ?_
        simp only [Act.put, List.setIfInBounds_toArray, List.set_cons_zero, List.set_cons_succ]
        refine wpAnyH_done (by kernel_rfl) ?_ _
        cases fine with
        | true =>
          go_wp2_with fail
          go_ret
          exact ⟨t, ret_sb HTB.out, by rw [← HWS.out]; exact AnsW.ofTwo ⟨by rw [← HN.out]; exact hn3, .inr e0⟩ H8.out.2.2.2.1 (fun h => by cases h) (fun _ => TwoR.mendYes e0 hM.1 H9.out.1), H8.out.2.2.1.trans H9.out.2⟩
        | false =>
          go_wp2_with fail
          go_ret
          exact ⟨cWrong, ret_sb rfl, by rw [← HWS.out]; exact AnsW.ofTwo ⟨by rw [← HN.out]; exact hn3, .inr e0⟩ H8.out.2.2.2.1 (fun h => by cases h) (fun _ => TwoR.mendNo e0 hM.1 H9.out.1), H8.out.2.2.1.trans H9.out.2⟩
    · have hd3 : ((n : Int) == 3) = false := by simp; omega
      go_wp2_with fail
      go_ret
      exact ⟨cWhat, ret_sb rfl, by rw [← HWS.out]; exact AnsW.what (fun h => by have h2 := h.2; rw [e0] at h2; revert h2; decide) (fun h => hn3 (by rw [HN.out]; exact h.1)), H6.out.2⟩
  have hA : mapA W0 = none := by rw [mapA, if_neg hcPlain, if_neg hcBest, if_neg hcDist]
  have hB : mapB W0 = none := by rw [mapB, if_neg hcMend, if_neg hcSend]
  rw [hA] at l1
  rw [hB] at l2
  simp only [Option.getD, Option.isSome] at l1 l2
  clear hA hB
  go_wp2_with fail
  go_ret
  exact ⟨cWhat, ret_sb rfl, by rw [← HWS.out]; exact AnsW.what (fun h => by have h2 := h.2; rw [← HW0.out] at h2; exact h2.elim hcDist (fun h2 => h2.elim hcBest hcPlain)) (fun h => by have h2 := h.2; rw [← HW0.out] at h2; exact h2.elim hcSend hcMend), H6.out.2⟩
end Go.Proofs.YtcdbeepphdfipaaGreatDoor

/- The reference's ParseCode. -/
import Derived.Test.YtcdbeepphdfipaaGreatDoorPieS
import Derived.Test.YtcdbeepphdfipaaGreatDoorGenB
import Derived.Test.YtcdbeepphdfipaaGreatDoorLeaf
import Derived.Test.YtcdbeepphdfipaaGreatDoorOwn2
import Derived.Deep.RegionLaw
import Derived.Deep.RegionHeld3
import Derived.Deep.CutBlock
import Derived.Deep.DeepCutAuto
namespace Go.Proofs.YtcdbeepphdfipaaGreatDoor
open Go.RowKit
set_option linter.unusedVariables false

/-- What parseCode finds. -/
def ParsS (L : List UInt8) (p : Int) (rows : List (List Int)) (ok : Bool) : Prop :=
  (∃ d r, splitB 58 L = [[d], r] ∧ 0 ≤ sDig d ∧ p = sDig d ∧ rows = (splitB 47 r).map sUn ∧ (ok = true ↔ ValidC p rows)) ∨
  ((∀ d r, splitB 58 L = [[d], r] → ¬ 0 ≤ sDig d) ∧ p = 0 ∧ rows = [] ∧ ok = false)
theorem sDig_ge {d : UInt8} : 0 ≤ sDig d ↔ 48 ≤ d.toNat ∧ d.toNat ≤ 57 := by
  unfold sDig
  constructor
  · intro h
    by_cases c : 48 ≤ d.toNat ∧ d.toNat ≤ 57
    · exact c
    · rw [if_neg c] at h
      split at h <;> omega
  · intro h
    rw [if_pos h]
    omega
theorem sDig_val {d : UInt8} (h : 48 ≤ d.toNat ∧ d.toNat ≤ 57) : sDig d = (d.toNat : Int) - 48 := by rw [sDig, if_pos h]
/-- The pieces of a text are together no longer than the text and the bytes between them. -/
theorem splitB_len (c : UInt8) : ∀ l : List UInt8, (splitB c l).length ≤ l.length + 1 ∧ ∀ x ∈ splitB c l, x.length ≤ l.length
  | [] => by simp [splitB]
  | y :: l => by
    obtain ⟨h1, h2⟩ := splitB_len c l
    rw [splitB]
    split
    · refine ⟨by simp; omega, fun x hx => ?_⟩
      rcases List.mem_cons.1 hx with rfl | hx
      · simp
      · have := h2 x hx
        simp; omega
    · split
      · simp
      · rename_i h t e
        rw [e] at h1 h2
        refine ⟨by simp at h1 ⊢; omega, fun x hx => ?_⟩
        rcases List.mem_cons.1 hx with rfl | hx
        · have := h2 h (List.mem_cons_self ..)
          simp; omega
        · have := h2 x (List.mem_cons_of_mem _ hx)
          simp; omega
theorem gv_strV {ls : List (List UInt8)} {i : Nat} (h : i < ls.length) : gv (strV ls) i = .string (bs ls[i]) := by
  rw [gv_lt (by rw [strV, List.length_map]; exact h)]
  simp [strV]
theorem len_bs (L : List UInt8) (n : Nat) (h : L.length = n) : (bs L).size = n := by rw [bs_size, h]

theorem cell_oneB {w : World} {g : Nat} {v : Value} {t : TypeId} (h : w.heap[g]? = some (.cells #[v] t (0, 0))) (ad : Addr) (had : some (⟨g, 0, none⟩ : Addr) = some ad) (j : Nat) (u : Value) (hu : [v][j]? = some u) : w.cell? (ad.add j) = some u := by
  obtain rfl := Option.some.inj had
  match j, hu with
  | 0, hu =>
    simp at hu; subst hu
    rw [Addr.add_lit, Nat.zero_add, cell_of_heap h]; rfl
/-- No digit stands ahead of a colon. -/
def NoDig (L : List UInt8) : Prop := ∀ d r, splitB 58 L = [[d], r] → ¬ 0 ≤ sDig d
theorem putB2 {w : World} {g : Nat} {a b : Value} {t : TypeId} (h : Blk2 w g a b t) (x y : Value) : Blk2 ((w.setCell ⟨g, 0, none⟩ x).setCell ⟨g, 1, none⟩ y) g x y t := by
  have h' : w.heap[g]? = some (.cells #[a, b] t (0, 0)) := h
  simp [Blk2, World.setCell, Array.getElem?_modify, h']
theorem setB1 {w : World} {g : Nat} {a b : Value} {t : TypeId} (h : Blk2 w g a b t) (y : Value) : Blk2 (w.setCell ⟨g, 1, none⟩ y) g a y t := by
  have h' : w.heap[g]? = some (.cells #[a, b] t (0, 0)) := h
  simp [Blk2, World.setCell, Array.getElem?_modify, h']
/-- It ends with what parseCode finds. -/
def EndS (L : List UInt8) (w : World) (e : Ending) (w' : World) : Prop :=
  ∃ u vs rows p ok, e = .returned (.tuple #[.agg #[.int .i64 p, u], .bool ok]) ∧ OwnR w' 53 3 u vs rows ∧ FromR w.heap.size u vs rows ∧ ParsS L p rows ok ∧ New w w'

set_option maxRecDepth 100000 in
set_option maxHeartbeats 4000000 in
theorem parseCodeS_any (L : List UInt8) (w : World) (hL : L.length ≤ 1100000) :
    Calls Tryz.prog 26 #[.string (bs L)] w fun e w' => EndS L w e w' := by
  have HLL := Lib.hid hL
  have r0 := Blk2.alloc w (.int .i64 0) (.slice none 0 0) 24
  have n0 := New.alloc w (.cells #[.int .i64 0, .slice none 0 0] 24)
  obtain ⟨w0, hw0⟩ : ∃ w0, w0 = w.alloc (.cells #[.int .i64 0, .slice none 0 0] 24) := ⟨_, rfl⟩
  rw [← hw0] at r0 n0
  have hs0 : w.heap.size < w0.heap.size := by rw [hw0, World.size_alloc]; exact Nat.lt_succ_self _
  go_enter Tryz.func26, Tryz.ntmps26
  go_upto_region 1 with fail
  rw [← hw0]
  have H0 := Lib.hid (And.intro r0 (And.intro n0 hs0))
  clear r0 n0 hs0 hw0 hL
  go_upto_region 2 with (go_at_call 56; refine (splitAt_any L 58 _ (by have := HLL.out; omega)).mono ?_; rintro e w1 ⟨v1, rfl, ho1, hf1, hn1⟩; obtain ⟨ls, hls⟩ : ∃ ls, ls = splitB 58 L := ⟨_, rfl⟩; rw [← hls] at ho1; obtain ⟨g1, c1, hv1, _, _⟩ := ho1.shape (by rw [strV, hls]; intro h; exact splitB_ne 58 L (List.map_eq_nil_iff.1 h)); rw [strV, List.length_map] at hv1; obtain ⟨l1, hl1⟩ : ∃ l1, l1 = ls.length := ⟨_, rfl⟩; rw [← hl1] at hv1; subst hv1; have H1 := Lib.hid (And.intro ho1 (And.intro hf1 (And.intro hn1 (And.intro hls hl1)))); clear ho1 hf1 hn1 hls hl1)
  obtain ⟨z0, z1, _, _⟩ := (H0.out.1.new H1.out.2.2.1).cells
  obtain ⟨x0, x1, hx⟩ := (H0.out.1.new H1.out.2.2.1).put (.int .i64 0) (.slice none 0 0)
  have FIN : Hid (NoDig L → EndS L w (.returned (.tuple #[.agg #[.int .i64 0, .slice none 0 0], .bool false])) ((w1.setCell ⟨w.heap.size, 0, none⟩ (.int .i64 0)).setCell ⟨w.heap.size, 1, none⟩ (.slice none 0 0))) := fun h =>
    ⟨.slice none 0 0, [], [], 0, false, rfl, ⟨Own.nil _ _, rfl, fun i hi => absurd hi (Nat.not_lt_zero i), fun i j hi => absurd hi (Nat.not_lt_zero i)⟩, ⟨From.nil _, fun i hi => absurd hi (Nat.not_lt_zero i)⟩, .inr ⟨h, rfl, rfl, rfl⟩, New.then (H0.out.2.1.trans H1.out.2.2.1) hx (fun i hi => by omega)⟩
  clear hx
  by_cases hl2 : l1 = 2
  rotate_left
  · have hd : ((l1 : Int) == 2) = false := by simp; omega
    go_wp2_with fail
    refine bodyPost_ret (v := .tuple #[.agg #[.int .i64 0, .slice none 0 0], .bool false]) (by simp [results, go_sem, x0, x1]) rfl ?_
    exact FIN.out (fun d r h => by
      have h1 := H1.out.2.2.2.1
      have h2 := H1.out.2.2.2.2
      rw [h1, h] at h2
      exact absurd h2 hl2)
  subst hl2
  obtain ⟨a, r, har⟩ : ∃ a r, ls = [a, r] := by
    have h2 := H1.out.2.2.2.2
    match ls, h2 with
    | [a, r], _ => exact ⟨a, r, rfl⟩
  subst har
  have ck0 : w1.cell? ⟨g1, 0, none⟩ = some (.string (bs a)) := (H1.out.1.cell (i := 0) (by simp [strV])).1
  have ck1 : w1.cell? ⟨g1, 1, none⟩ = some (.string (bs r)) := (H1.out.1.cell (i := 1) (by simp [strV])).1
  have HE : Hid (splitB 58 L = [a, r]) := H1.out.2.2.2.1.symm
  by_cases ha : a.length = 1
  rotate_left
  · obtain ⟨A, hA⟩ : ∃ A, A = bs a := ⟨_, rfl⟩
    have hA1 : ¬ (A.size : Int) = 1 := by rw [hA, bs_size]; omega
    have hd : ((A.size : Int) == 1) = false := by simp; omega
    rw [← hA] at ck0
    clear hA
    go_wp2_with fail
    refine bodyPost_ret (v := .tuple #[.agg #[.int .i64 0, .slice none 0 0], .bool false]) (by simp [results, go_sem, x0, x1]) rfl ?_
    exact FIN.out (fun d r' h => by
      have h1 := HE.out
      rw [h] at h1
      simp only [List.cons.injEq] at h1
      rw [← h1.1] at ha
      exact absurd rfl ha)
  obtain ⟨d, rfl⟩ : ∃ d, a = [d] := by
    match a, ha with
    | [d], _ => exact ⟨d, rfl⟩
  obtain ⟨y, hy⟩ : ∃ y, y = d.toNat := ⟨_, rfl⟩
  have hix : ∀ w, (Instr.index 9 (.string (bs [d])) (.int .i64 0)).run Tryz.prog w = .ok (.int .u8 (y : Nat)) w := by
    obtain ⟨x, hx1, hx2⟩ := run_idx [d] 0 (by simp)
    intro w
    have h := hx2 w
    simp at hx1
    subst hx1
    rw [hy]
    exact h
  obtain ⟨A, hA⟩ : ∃ A, A = bs [d] := ⟨_, rfl⟩
  have hA1 : (A.size : Int) = 1 := by rw [hA, bs_size]; rfl
  have hdA : ((A.size : Int) == 1) = true := by rw [hA1]; rfl
  rw [← hA] at hix ck0
  have hy256 : y < 256 := by rw [hy]; exact d.toNat_lt
  have HY := Lib.hid hy
  have HA := Lib.hid hA
  clear hA hy ha
  by_cases c1 : y < 48
  · go_wp2_with fail
    refine bodyPost_ret (v := .tuple #[.agg #[.int .i64 0, .slice none 0 0], .bool false]) (by simp [results, go_sem, x0, x1]) rfl ?_
    exact FIN.out (fun d' r' h h0 => by
      have h1 := HE.out
      rw [h] at h1
      simp only [List.cons.injEq, and_true] at h1
      rw [h1.1] at h0
      have h2 := (sDig_ge.1 h0).1
      rw [← HY.out] at h2
      omega)
  by_cases c2 : 57 < y
  · go_wp2_with fail
    refine bodyPost_ret (v := .tuple #[.agg #[.int .i64 0, .slice none 0 0], .bool false]) (by simp [results, go_sem, x0, x1]) rfl ?_
    exact FIN.out (fun d' r' h h0 => by
      have h1 := HE.out
      rw [h] at h1
      simp only [List.cons.injEq, and_true] at h1
      rw [h1.1] at h0
      have h2 := (sDig_ge.1 h0).2
      rw [← HY.out] at h2
      omega)
  clear FIN x0 x1 z0 z1
  obtain ⟨w2, hw2⟩ : ∃ w2, w2 = w1.alloc (.cells #[.int .i64 ((y : Int) - 48), .slice none 0 0] 24) := ⟨_, rfl⟩
  have B2 : Hid (Blk2 w2 w1.heap.size (.int .i64 ((y : Int) - 48)) (.slice none 0 0) 24) := by rw [hw2]; exact Blk2.alloc w1 _ _ _
  have N2 : Hid (New w1 w2 ∧ w1.heap.size < w2.heap.size) := by
    rw [hw2]
    exact ⟨New.alloc _ _, by rw [World.size_alloc]; exact Nat.lt_succ_self _⟩
  have ck2 := N2.out.1.cellNew ck1
  have hy0 : (0 : Int) ≤ (y : Int) - 48 ∧ (y : Int) - 48 ≤ 9 := by omega
  go_upto_region 5 with fail
  rw [← hw2]
  clear hw2 ck0 ck1 hix hdA hA1
  have hlen := splitB_len 58 L
  rw [HE.out] at hlen
  have hr := hlen.2 r (by simp)
  have HRL := Lib.hid hr
  clear hlen hr
  go_upto_region 6 with (go_at_call 56; refine (splitAt_any r 47 _ (by have := HLL.out; have := HRL.out; omega)).mono ?_; rintro e w3 ⟨v3, rfl, ho3, hf3, hn3⟩; obtain ⟨ls2, hls2⟩ : ∃ ls, ls = splitB 47 r := ⟨_, rfl⟩; rw [← hls2] at ho3; obtain ⟨g3, c3, hv3, _, _⟩ := ho3.shape (by rw [strV, hls2]; intro h; exact splitB_ne 47 r (List.map_eq_nil_iff.1 h)); rw [strV, List.length_map] at hv3; obtain ⟨m, hm⟩ : ∃ m, m = ls2.length := ⟨_, rfl⟩; rw [← hm] at hv3; subst hv3; have H3 := Lib.hid (And.intro ho3 (And.intro hf3 (And.intro hn3 (And.intro hls2 hm)))); clear ho3 hf3 hn3 hls2 hm)
  obtain ⟨G, hG⟩ : ∃ G, G = w1.heap.size := ⟨_, rfl⟩
  rw [← hG] at B2 ⊢
  have hG3 : G < w3.heap.size := by have h1 := N2.out.2; have h2 := H3.out.2.2.1.size; omega
  have hG0 : w.heap.size < G := by have h1 := H0.out.2.2; have h2 := H1.out.2.2.1.size; omega
  have NW : Hid (New w w3) := H0.out.2.1.trans (H1.out.2.2.1.trans (N2.out.1.trans H3.out.2.2.1))
  have hm1 : m ≤ 1200000 := by
    have h1 := (splitB_len 47 r).1
    have h2 := H3.out.2.2.2.2
    rw [H3.out.2.2.2.1] at h2
    have h3 := HRL.out
    have h4 := HLL.out
    omega
  have B3 := Lib.hid (B2.out.new H3.out.2.2.1)
  have HGG := Lib.hid hG
  clear hG ck2
  go_wp2_with fail
  go_loopw [7] (fun t7 wr => ∃ k : Nat, t7 = .int .i64 k ∧ k ≤ m ∧ Hid (∃ ad l c vs, Blk2 wr G (.int .i64 ((y : Int) - 48)) (.slice ad l c) 24 ∧ OwnR wr 53 3 (.slice ad l c) vs ((ls2.take k).map sUn) ∧ FromR w3.heap.size (.slice ad l c) vs ((ls2.take k).map sUn) ∧ Chg (· = G) w3 wr)) (fun t7 _ => m - (intOf t7).toNat)
  case atStart => exact ⟨0, rfl, Nat.zero_le _, none, 0, 0, [], B3.out, ⟨Own.nil _ _, rfl, fun i hi => absurd hi (Nat.not_lt_zero i), fun i j hi => absurd hi (Nat.not_lt_zero i)⟩, ⟨From.nil _, fun i hi => absurd hi (Nat.not_lt_zero i)⟩, Chg.refl _ _⟩
  case round =>
    obtain ⟨k, rfl, hk, HL⟩ := hrel
    obtain ⟨ad, l, c, vs, hb, ho, hf, hc⟩ := HL.out
    have hvl : vs.length ≤ 1200000 := by rw [ho.len, List.length_map, List.length_take]; omega
    have hpo := H3.out.1.chg hc (fun g hg e => own_blk2 H3.out.1 B3.out (by decide) g hg e)
    have HW := Lib.hid (And.intro hb (And.intro ho (And.intro hf hc)))
    obtain ⟨p0, p1, p2, p3⟩ := hb.cells
    by_cases hkm : k < m
    · have hkl : k < ls2.length := by rw [← H3.out.2.2.2.2]; exact hkm
      obtain ⟨q, hq⟩ : ∃ q, q = ls2[k] := ⟨_, rfl⟩
      have ck : wr.cell? ⟨g3, k, none⟩ = some (.string (bs q)) := by
        rw [(hpo.cell (i := k) (by rw [strV, List.length_map]; exact hkl)).1, gv_strV hkl, hq]
      have hql : q.length ≤ 2000000 := by
        have h1 := (splitB_len 47 r).2 q (by rw [← H3.out.2.2.2.1, hq]; exact List.getElem_mem hkl)
        have h3 := HRL.out
        have h4 := HLL.out
        omega
      have HQ := Lib.hid (show (ls2.take (k + 1)).map sUn = (ls2.take k).map sUn ++ [sUn q] by rw [List.take_add_one, List.getElem?_eq_getElem hkl, List.map_append, hq]; rfl)
      have hvl' : vs.length + 1 ≤ 1099511627776 := by omega
      clear hb ho hf hc hpo hq hkl
      go_upto_region 9 with fail
      go_region_law (first
        | (go_simp; go_at_call 57; refine (specDigits_any q _ hql).mono ?_; rintro e w4 ⟨v4, rfl, ho4, hf4, hn4⟩; have hN4 : New wr w4 := (New.drew _).trans hn4; obtain ⟨a4, c4, hv4, _, _⟩ := ho4.shape'; obtain ⟨l4, hl4⟩ : ∃ l4, v4 = .slice a4 l4 c4 := ⟨_, hv4⟩; subst hl4; clear hv4; obtain ⟨e0, e1, e2, e3⟩ := (HW.out.1.new hN4).cells; obtain ⟨i0, i1, i2, i3⟩ := ((HW.out.1.new hN4).new (New.alloc w4 (.cells #[.slice a4 l4 c4] 53))).cells; have H4 := Lib.hid (And.intro ho4 (And.intro hf4 hN4)); clear ho4 hf4 hn4 hN4)
        | (refine step_app (by rfl) (.tmp 53) (.tmp 59) _ (by rfl) tyRow (HW.out.2.1.outer.new (H4.out.2.2.trans (New.alloc w4 (.cells #[.slice a4 l4 c4] 53)))) (by rfl) (some ⟨w4.heap.size, 0, none⟩) 1 1 [.slice a4 l4 c4] (by rfl) (by rfl) (fun h => by cases h) (cell_oneB (heap_alloc_new w4 _)) (fun u hu => by simp at hu; subst hu; rfl) hvl' ?_; intro v6 w6 k1 k2 k3; obtain ⟨a6, c6, hv6, _, _⟩ := k1.shape'; obtain ⟨l6, hl6⟩ : ∃ l6, v6 = .slice a6 l6 c6 := ⟨_, hv6⟩; subst hl6; clear hv6; have hch : Chg (fun b => (Value.slice ad l c).ownBlock = some b) w4 w6 := Chg.trans (New.alloc w4 (.cells #[.slice a4 l4 c4] 53)) k2 (fun _ _ x => x.elim) (fun _ _ x => x); obtain ⟨t0, t1, t2, t3⟩ := ((HW.out.1.new H4.out.2.2).chg hch (fun e => own_blk2 HW.out.2.1.outer HW.out.1 (by decide) _ e rfl)).cells; have K6 := Lib.hid (And.intro k1 (And.intro hch k3)); clear k1 k2 k3 hch))
      all_goals
        have hb6 := (HW.out.1.new H4.out.2.2).chg K6.out.2.1 (fun e => own_blk2 HW.out.2.1.outer HW.out.1 (by decide) _ e rfl)
        obtain ⟨m1, m2, m3⟩ := OwnR.push (B := w3.heap.size) HW.out.2.1 HW.out.2.2.1 HW.out.2.2.2.size H4.out.2.2 H4.out.1 H4.out.2.1 K6.out.1 K6.out.2.1 (fun g' h => by
          rcases K6.out.2.2 g' h with h | h
          · exact .inl h
          · exact .inr (by simp at h; omega))
        have hs9 : Chg (· = G) w6 (w6.setCell ⟨G, 1, none⟩ (.slice a6 l6 c6)) := Chg.setCell w6 ⟨G, 1, none⟩ _
        have HK := Lib.hid (And.intro (setB1 hb6 (.slice a6 l6 c6)) (And.intro (m1.chg hs9 (own_blk2 m1.outer hb6 (by decide)) (fun i hi => own_blk2 (m1.inner i hi) hb6 (by decide))) (And.intro m2 (Chg.trans (Chg.trans HW.out.2.2.2 m3 (fun _ _ x => x) (fun i hi h => by have := HW.out.2.2.1.1 i h; omega) (U := (· = G))) hs9 (fun _ _ x => x) (fun _ _ x => x) (U := (· = G))))))
        clear hb6 m1 m2 m3 hs9
        go_wp2_with fail
        go_roundw
        case rel => exact ⟨k + 1, by go_num, by omega, a6, l6, c6, _, HK.out.1, by rw [HQ.out]; exact HK.out.2.1, by rw [HQ.out]; exact HK.out.2.2.1, HK.out.2.2.2⟩
        case measure => simp [intOf]; omega
    · obtain rfl : k = m := by omega
      have hrw : (ls2.take k).map sUn = ls2.map sUn := by rw [H3.out.2.2.2.2, List.take_length]
      rw [hrw] at ho hf
      have hlen : ∀ i, i < (ls2.map sUn).length → (gr (ls2.map sUn) i).length ≤ 1200000 := by
        intro i hi
        rw [gr_lt hi, List.getElem_map, sUn, List.length_map]
        rw [List.length_map] at hi
        have h1 := (splitB_len 47 r).2 ls2[i] (by rw [← H3.out.2.2.2.1]; exact List.getElem_mem hi)
        have h3 := HRL.out
        have h4 := HLL.out
        omega
      have hml : (ls2.map sUn).length ≤ 1200000 := by rw [List.length_map, ← H3.out.2.2.2.2]; exact hm1
      have HI := Lib.hid (ho.isR (by unfold Mid; omega) (fun i hi => by have := hlen i hi; unfold Mid; omega))
      have HB0 := Lib.hid (((H0.out.1.new H1.out.2.2.1).new (N2.out.1.trans H3.out.2.2.1)).chg hc (fun e => by omega))
      have HZ := Lib.hid (And.intro hb (And.intro ho (And.intro hf hc)))
      have HRW : Hid (∃ rows, rows = ls2.map sUn) := ⟨_, rfl⟩
      clear hb ho hf hc hpo hlen hml hrw HW HRW
      go_upto_region 10 with fail
      go_region_law (first
        | (go_simp; go_at_call 39; refine (validCode_any ((y : Int) - 48) _ (ls2.map sUn) _ (HI.out.new (New.drew _))).mono ?_; rintro e w5 ⟨⟨ok, rfl, hok⟩, hn5⟩; have hN5 : New wr w5 := (New.drew _).trans hn5; obtain ⟨e0, e1, e2, e3⟩ := (HZ.out.1.new hN5).cells; obtain ⟨f0, f1, f2, f3⟩ := (HB0.out.new hN5).cells; have H5 := Lib.hid (And.intro hok hN5); clear hok hn5 hN5))
      all_goals
        obtain ⟨x0, x1, hx⟩ := (HB0.out.new H5.out.2).put (.int .i64 ((y : Int) - 48)) (.slice ad l c)
        have HX := Lib.hid hx
        clear hx
        go_wp2_with fail
        refine bodyPost_ret (v := .tuple #[.agg #[.int .i64 ((y : Int) - 48), .slice ad l c], .bool ok]) (by simp [results, go_sem, x0, x1]) rfl ?_
        have hNw : New w wr := New.then NW.out HZ.out.2.2.2 (fun i hi => by omega)
        have hs3 := NW.out.size
        have ho5 := HZ.out.2.1.new H5.out.2
        have hb5 := HB0.out.new H5.out.2
        have hsd : 0 ≤ sDig d := sDig_ge.2 ⟨by rw [← HY.out]; omega, by rw [← HY.out]; omega⟩
        have hpv : (y : Int) - 48 = sDig d := by rw [sDig_val (sDig_ge.1 hsd), ← HY.out]
        refine ⟨_, vs, ls2.map sUn, _, ok, rfl, ho5.chg HX.out (own_blk2 ho5.outer hb5 (by decide)) (fun i hi => own_blk2 (ho5.inner i hi) hb5 (by decide)), ⟨HZ.out.2.2.1.1.mono hs3, fun i hi => (HZ.out.2.2.1.2 i hi).mono hs3⟩, .inl ⟨d, r, HE.out, hsd, hpv, by rw [H3.out.2.2.2.1], H5.out.1⟩, New.then (hNw.trans H5.out.2) HX.out (fun i hi => by omega)⟩
end Go.Proofs.YtcdbeepphdfipaaGreatDoor

/- The program's ParseCode. -/
import Derived.Test.YtcdbeepphdfipaaGreatDoorSeqG
import Derived.Test.YtcdbeepphdfipaaGreatDoorPrsS
import Derived.Test.YtcdbeepphdfipaaGreatDoorTxtG
namespace Go.Proofs.YtcdbeepphdfipaaGreatDoor
open Go.RowKit
set_option linter.unusedVariables false
attribute [local go_sem] Oper.semAt_some

theorem Blk2.both {w : World} {g : Nat} {a b : Value} {t : TypeId} (h : Blk2 w g a b t) (x y : Value) : Blk2 ((w.setCell ⟨g, 0, none⟩ x).setCell ⟨g, 1, none⟩ y) g x y t := by
  have h' : w.heap[g]? = some (.cells #[a, b] t (0, 0)) := h
  simp [Blk2, World.setCell, Array.getElem?_modify, h']
theorem Blk2.second {w : World} {g : Nat} {a b : Value} {t : TypeId} (h : Blk2 w g a b t) (y : Value) : Blk2 (w.setCell ⟨g, 1, none⟩ y) g a y t := by
  have h' : w.heap[g]? = some (.cells #[a, b] t (0, 0)) := h
  simp [Blk2, World.setCell, Array.getElem?_modify, h']
theorem Blk2.low {w : World} {g : Nat} {a b : Value} {t : TypeId} (h : Blk2 w g a b t) : g < w.heap.size := (Array.getElem?_eq_some_iff.1 h).1
/-- No code. -/
theorem endP_zero {L : List UInt8} {w w' : World} (h : ParseR L 0 [] false) (hn : New w w') : EndP L w (.returned (.tuple #[.agg #[.int .i64 0, .slice none 0 0], .bool false])) w' :=
  ⟨.slice none 0 0, [], [], 0, false, rfl, ⟨Own.nil _ _, rfl, fun i hi => absurd hi (Nat.not_lt_zero i), fun i j hi => absurd hi (Nat.not_lt_zero i)⟩, ⟨From.nil _, fun i hi => absurd hi (Nat.not_lt_zero i)⟩, h, hn⟩

/-- The rows of the first t pieces. -/
def rowsP (B : List UInt8) (t : Nat) : List (List Int) := ((splitB 47 B).take t).map unT
theorem rowsP_all (B : List UInt8) : rowsP B (splitB 47 B).length = (splitB 47 B).map unT := by rw [rowsP, List.take_length]
theorem rowsP_succ {B : List UInt8} {t : Nat} (h : t < (splitB 47 B).length) : rowsP B (t + 1) = rowsP B t ++ [unT (pieceT 47 B t)] := by
  rw [rowsP, List.take_add_one, List.getElem?_eq_getElem h, pieceT, List.getD_eq_getElem?_getD, List.getElem?_eq_getElem h, List.map_append]
  rfl
theorem rowsP_len {B : List UInt8} {t : Nat} (h : t ≤ (splitB 47 B).length) : (rowsP B t).length = t := by
  rw [rowsP, List.length_map, List.length_take]; omega
theorem pieceT_len (B : List UInt8) (t : Nat) (h : t < (splitB 47 B).length) : (pieceT 47 B t).length ≤ B.length := by
  refine (splitB_len 47 B).2 _ ?_
  rw [pieceT, List.getD_eq_getElem?_getD, List.getElem?_eq_getElem h]
  exact List.getElem_mem h
theorem unT_succ {P : List UInt8} {i : Nat} (h : i < P.length) : unT (P.take (i + 1)) = unT (P.take i) ++ [((P[i]).toNat : Int) - 48] := by
  rw [unT, List.take_add_one, List.getElem?_eq_getElem h, List.map_append]
  rfl
/-- What holds between two rounds. -/
def InvP (B : List UInt8) (v : Int) (w : World) (g D t : Nat) (W : World) : Prop :=
  Blk2 W w.heap.size (.int .i64 0) (.slice none 0 0) 24 ∧
    (∃ ao l c vs, Blk2 W g (.int .i64 v) (.slice ao l c) 24 ∧ OwnR W 53 3 (.slice ao l c) vs (rowsP B t) ∧ FromR D (.slice ao l c) vs (rowsP B t)) ∧ New w W
theorem InvP.chg {S : Nat → Prop} {B : List UInt8} {v : Int} {w X Y : World} {g D t : Nat} (h : InvP B v w g D t X) (hc : Chg S X Y) (h1 : ∀ i, S i → w.heap.size < i ∧ i ≠ g ∧ i < D) : InvP B v w g D t Y := by
  obtain ⟨h2, ⟨ao, l, c, vs, h3, h4, h5⟩, h6⟩ := h
  refine ⟨h2.chg hc (fun e => by have := h1 _ e; omega), ⟨ao, l, c, vs, h3.chg hc (fun e => by have := h1 _ e; omega), h4.chg hc (fun k hk e => by have := h1 _ e; have := h5.1 k hk; omega) (fun i hi k hk e => by have := h1 _ e; have := h5.2 i hi k hk; omega), h5⟩, h6.then hc (fun i e => by have := h1 _ e; omega)⟩

set_option maxRecDepth 100000 in
set_option maxHeartbeats 8000000 in
theorem implParseCode_any (L : List UInt8) (w : World) (hL : L.length ≤ 1100000) (hv : ErrV w) :
    Calls Tryz.prog 9 #[.string (bs L)] w fun e w' => EndP L w e w' := by
  have r0 := Blk2.alloc w (.int .i64 0) (.slice none 0 0) 24
  have n0 := New.alloc w (.cells #[.int .i64 0, .slice none 0 0] 24)
  have s0 : (w.alloc (.cells #[.int .i64 0, .slice none 0 0] 24)).heap.size = w.heap.size + 1 := World.size_alloc _ _
  obtain ⟨w0, hw0⟩ : ∃ w0, w0 = w.alloc (.cells #[.int .i64 0, .slice none 0 0] 24) := ⟨_, rfl⟩
  rw [← hw0] at r0 n0 s0
  have H0 := Lib.hid (And.intro r0 (And.intro n0 (And.intro s0 (hv.new n0))))
  have HW0 := Lib.hid hw0
  clear r0 n0 s0 hv hw0
  have KC := Lib.hid (cut_any L 58 w0 (by omega))
  obtain ⟨S, hS⟩ : ∃ S, S = bs L := ⟨_, rfl⟩
  rw [← hS] at KC ⊢
  have HS := Lib.hid hS
  clear hS
  refine (callsIn_wide (n := 9)).1 ?_
  refine callsIn_of_wp_marks Tryz.func9 rfl trivial ?_ rfl
  simp only [Tryz.ntmps9, List.size_toArray, List.length_cons, List.length_nil, Nat.reduceAdd, Nat.reduceSub, Array.replicate_succ, Array.replicate_zero, List.push_toArray, List.append_toArray, List.nil_append, List.cons_append]
  refine wpIn_wide.2 ?_
  go_upto_region 1 with fail
  rw [← HW0.out]
  go_wp2_with fail
  refine KC.out.mono ?_
  rintro e w1 ⟨A, B, ok, rfl, hr, hn1⟩
  have hA : A.length ≤ L.length := by
    rcases hr with ⟨_, h, _⟩ | ⟨_, h, _⟩
    · rw [h, List.length_append]; omega
    · rw [h]; exact Nat.le_refl _
  have hB : ok = true → B.length ≤ L.length := fun hok => by
    rcases hr with ⟨_, h, _⟩ | ⟨h, _⟩
    · rw [h, List.length_append, List.length_cons]; omega
    · rw [hok] at h; cases h
  have H1 := Lib.hid (And.intro hr (And.intro hn1 hB))
  clear hr hn1 hB
  have KA := Lib.hid (atoi_any A w1 (by omega) (H0.out.2.2.2.new H1.out.2.1))
  obtain ⟨T, hT⟩ : ∃ T, T = bs A := ⟨_, rfl⟩
  obtain ⟨R, hR⟩ : ∃ R, R = bs B := ⟨_, rfl⟩
  rw [← hT] at KA ⊢
  rw [← hR]
  have HR := Lib.hid hR
  clear hT hR
  go_wp2_with fail
  refine KA.out.mono ?_
  rintro e w2 h
  have hn2 : New w1 w2 := by
    rcases h with ⟨v, rfl, hp, hn2⟩ | ⟨v, t, x, rfl, hp, hn2⟩ <;> exact hn2
  have hsz2 : w.heap.size + 1 ≤ w2.heap.size := by
    have := H0.out.2.2.1
    have := (H1.out.2.1.trans hn2).size
    omega
  have H2 := Lib.hid (And.intro (H0.out.1.new (H1.out.2.1.trans hn2)) (And.intro (H0.out.2.1.trans (H1.out.2.1.trans hn2)) hsz2))
  obtain ⟨x0, x1, hx⟩ := H2.out.1.put (.int .i64 0) (.slice none 0 0)
  obtain ⟨p0, p1, p2, p3⟩ := H2.out.1.cells
  have HX := Lib.hid (H2.out.2.1.then hx (fun i hi => by omega))
  clear hx hn2 hsz2
  rcases h with ⟨v, rfl, hp, -⟩ | ⟨v, t, x, rfl, hp, -⟩
  · have HP := Lib.hid hp
    clear hp
    cases ok with
    | false =>
      go_wp2_with fail
      refine ⟨.tuple #[.agg #[.int .i64 0, .slice none 0 0], .bool false], by simp [results, go_sem, x0, x1], ?_⟩
      refine endP_zero ?_ HX.out
      rcases H1.out.1 with ⟨h, _⟩ | ⟨_, _, h⟩
      · cases h
      · exact parse_none h
    | true =>
      have hcut : L = A ++ 58 :: B ∧ 58 ∉ A := by
        rcases H1.out.1 with ⟨_, h⟩ | ⟨h, _⟩
        · exact h
        · cases h
      have hBL := H1.out.2.2 rfl
      have r4 := Blk2.alloc w2 (.int .i64 v) (.slice none 0 0) 24
      have n4 := New.alloc w2 (.cells #[.int .i64 v, .slice none 0 0] 24)
      have s4 : (w2.alloc (.cells #[.int .i64 v, .slice none 0 0] 24)).heap.size = w2.heap.size + 1 := World.size_alloc _ _
      obtain ⟨w4, hw4⟩ : ∃ w4, w4 = w2.alloc (.cells #[.int .i64 v, .slice none 0 0] 24) := ⟨_, rfl⟩
      rw [← hw4] at r4 n4 s4
      have HC := Lib.hid hcut
      have H4 := Lib.hid (And.intro (H2.out.1.new n4) (And.intro r4 (And.intro (H2.out.2.1.trans n4) s4)))
      have HW4 := Lib.hid hw4
      clear r4 n4 s4 hw4 hcut x0 x1
      have KS := Lib.hid (splitSeq_any R ⟨#[47]⟩ w4)
      go_upto_region 6 with fail
      rw [← HW4.out]
      go_wp2_with fail
      refine KS.out.mono ?_
      rintro e w6 ⟨rfl, hw6⟩
      have c1 := Blk1.alloc w4 (.string R) 9
      have m1 := New.alloc w4 (.cells #[.string R] 9)
      have z1 : (w4.alloc (.cells #[.string R] 9)).heap.size = w4.heap.size + 1 := World.size_alloc _ _
      obtain ⟨wa, hwa⟩ : ∃ wa, wa = w4.alloc (.cells #[.string R] 9) := ⟨_, rfl⟩
      rw [← hwa] at c1 m1 z1 hw6
      have c2 := Blk1.alloc wa (.string ⟨#[47]⟩) 9
      have m2 := New.alloc wa (.cells #[.string ⟨#[47]⟩] 9)
      have z2 : (wa.alloc (.cells #[.string ⟨#[47]⟩] 9)).heap.size = w4.heap.size + 1 + 1 := by rw [World.size_alloc, z1]
      obtain ⟨wb, hwb⟩ : ∃ wb, wb = wa.alloc (.cells #[.string ⟨#[47]⟩] 9) := ⟨_, rfl⟩
      rw [← hwb] at c2 m2 z2 hw6
      rw [z1] at c2
      have c3 := Blk1.alloc wb (.int .i64 0) 3
      have m3 := New.alloc wb (.cells #[.int .i64 0] 3)
      have z3 : (wb.alloc (.cells #[.int .i64 0] 3)).heap.size = w4.heap.size + 1 + 1 + 1 := by rw [World.size_alloc, z2]
      rw [← hw6] at c3 m3 z3
      rw [z2] at c3
      have m12 := m1.trans (m2.trans m3)
      have hs6 : w6.heap.size = w2.heap.size + 4 := by rw [z3, H4.out.2.2.2]
      have hs4 : w4.heap.size = w2.heap.size + 1 := H4.out.2.2.2
      have hw2 : w.heap.size < w2.heap.size := by have := H2.out.2.2; omega
      have h0 : InvP B v w w2.heap.size (w6.heap.size + 2) 0 w6 := ⟨H4.out.1.new m12, ⟨none, 0, 0, [], H4.out.2.1.new m12, ⟨Own.nil _ _, rfl, fun i hi => absurd hi (Nat.not_lt_zero i), fun i j hi => absurd hi (Nat.not_lt_zero i)⟩, ⟨From.nil _, fun i hi => absurd hi (Nat.not_lt_zero i)⟩⟩, H4.out.2.2.1.trans m12⟩
      rw [HR.out] at c1
      have H6 := Lib.hid (And.intro (c1.new (m2.trans m3)) (And.intro (c2.new m3) (And.intro c3 (And.intro h0 (And.intro hs6 hs4)))))
      clear c1 m1 z1 hwa c2 m2 z2 hwb c3 m3 z3 hw6 m12 h0 hs6 hs4 p0 p1 p2 p3
      go_wp2_with fail
      refine (wpIn_wide (n := 9)).1 ?_
      refine wpIn_rangeS (F := Fence.wide) (n := 9) rfl (by omega) (gf := 100) (lb := #[.pointer (some ⟨w4.heap.size + 1, 0, none⟩), .pointer (some ⟨w4.heap.size, 0, none⟩), .pointer (some ⟨w4.heap.size + 1 + 1, 0, none⟩)]) rfl trivial (enters_of Tryz.func100 (by kernel_rfl) rfl)
        (splitSeq_seq B 47 w4.heap.size 8 w6 (by omega) H6.out.1 H6.out.2.1 H6.out.2.2.1 (by omega)) H6.out.1.lt (Chg.refl _ _) rfl
        (fun b hb => by have := H6.out.2.2.2.2; omega) (fun t X Y h he => trivial)
        (fun t W => InvP B v w w2.heap.size (w6.heap.size + 2) t W)
        (fun t X Y h hc => h.chg hc (fun i hi => by have := H6.out.2.2.2.2; omega)) H6.out.2.2.2.1
        (fun t => { tmps := #[.string S, undef, .pointer (some ⟨w.heap.size, 0, none⟩), .bool false, .string T, .string R, .bool true, .int .i64 v, .nilIface, .pointer (some ⟨w2.heap.size, 0, none⟩), .string (bs (pieceT 47 B t)), undef, undef, undef,
          .tuple #[.string T, .string R, .bool true], .string S, .tuple #[.string T, .string R, .bool true], .string T, .string R, .bool true, .tuple #[.int .i64 v, .nilIface], .string T, .tuple #[.int .i64 v, .nilIface], .int .i64 v, .nilIface, .bool true, .bool false, .bool false, .nilIface, .bool false, .bool false,
          undef, .int .i64 v, .agg #[.int .i64 v, .slice none 0 0], .string R, seqV w4.heap.size, .string (bs (pieceT 47 B t)), undef, undef, undef, undef, undef, undef, undef, undef, undef, undef, undef, undef, undef, undef, undef, undef, undef, undef, undef, undef, undef, undef, undef, undef, undef, undef, undef, undef, undef, undef, undef, undef, undef], defers := [] }) ?assign ?body ?done
      case assign =>
        intro l t W C hC
        gi_wp2
        exact hC
      case body =>
        intro lp t W ht hI hsz _
        obtain ⟨hres, ⟨ao, l, cc, vs, hbk, how, hfr⟩, hnw⟩ := hI
        obtain ⟨P, hP⟩ : ∃ P, P = pieceT 47 B t := ⟨_, rfl⟩
        have hPl := pieceT_len B t ht
        have htl := (splitB_len 47 B).1
        have hvl : vs.length ≤ 1100001 := by rw [how.len, rowsP_len (Nat.le_of_lt ht)]; omega
        rw [← hP] at hPl ⊢
        obtain ⟨Z, hZ⟩ : ∃ Z, Z = bs P := ⟨_, rfl⟩
        have hzn : Z.size = P.length := by rw [hZ, bs_size]
        have hzb : Z.size ≤ 1100000 := by omega
        have hn2 := how.outer.len
        have HI := Lib.hid (And.intro hres (And.intro hbk (And.intro how (And.intro hfr hnw))))
        have HZ := Lib.hid (And.intro hzn hP)
        have HCV := Lib.hid (fun w => bytes_conv P w)
        have HT := Lib.hid ht
        have HSZ := Lib.hid hsz
        have HZE := Lib.hid hZ
        rw [← hZ]
        clear hres hbk how hfr hnw hP hPl htl hzn hn2 ht hsz hZ
        gi_wp2_with (gi_at_make; refine wpListIn_mk rfl _ _ _ rfl tyInt _ _ _ _ 0 Z.size rfl rfl rfl rfl (Nat.zero_le _) (by omega) ?_; intro v5 w5 hv5 ho5 hn5 hs5; subst hv5; have H5 := Lib.hid (And.intro ho5 (And.intro hn5 hs5)); clear ho5 hn5 hs5; obtain ⟨cb, w7, hcv0, hn7, hs7, hck⟩ := HCV.out w5; have hcv := hcv0 Z HZE.out; rw [← HZ.out.1] at hcv; have H7 := Lib.hid (And.intro hn7 (And.intro hs7 hck)); clear hcv0 hn7 hs7 hck)
        gi_loopw [11, 43] (fun t11 t43 wr => ∃ (i l1 c1 : Nat) (ad : Option Addr) (out : List Int), t11 = .slice ad l1 c1 ∧ t43 = .int .i64 i ∧ i ≤ Z.size ∧ out.length = i ∧ Hid (Own wr 3 (.slice ad l1 c1) (out.map (Value.int .i64)) ∧ (∀ g, (Value.slice ad l1 c1).ownBlock = some g → W.heap.size ≤ g ∧ g ≠ w5.heap.size) ∧ New W wr ∧ out = unT (P.take i) ∧ w5.heap.size < wr.heap.size ∧ (∀ j (h : j < P.length), wr.cell? ⟨w5.heap.size, j, none⟩ = some (.int .u8 (P[j].toNat : Nat))))) (fun _ t43 _ => Z.size - (intOf t43).toNat)
        case atStart => exact ⟨0, _, _, _, [], rfl, rfl, Nat.zero_le _, rfl, H5.out.1.new H7.out.1, (fun g hg => by simp [Value.ownBlock] at hg; have := H5.out.2.2; omega), H5.out.2.1.trans H7.out.1, rfl, by have := H7.out.2.1; omega, H7.out.2.2⟩
        case round =>
          obtain ⟨i, l1, c1, ad, out, rfl, rfl, hi, hol, HL⟩ := hrel
          by_cases hin : i < Z.size
          · have hiP : i < P.length := by rw [← HZ.out.1]; exact hin
            have hck := HL.out.2.2.2.2.2 i hiP
            have HU := Lib.hid (unT_succ hiP)
            obtain ⟨y, hy⟩ : ∃ y, y = (P[i]).toNat := ⟨_, rfl⟩
            have hy256 : y < 256 := by rw [hy]; exact (P[i]).toNat_lt
            rw [← hy] at hck HU
            clear hy hiP
            gi_wp2_with (gi_at_builtin; refine wpListIn_app1 rfl _ _ _ rfl tyInt wr HL.out.1 rfl _ _ rfl rfl rfl (by rw [List.length_map, hol]; omega) ?_; intro v8 w8 k1 k2 k3; obtain ⟨a8, c8, hv8, _, _⟩ := k1.shape'; have K8 := Lib.hid (And.intro k1 (And.intro k2 k3)); have HV8 := Lib.hid hv8; clear k1 k2 k3 hv8)
            obtain ⟨l8, hl8⟩ : ∃ l8, v8 = .slice a8 l8 c8 := ⟨_, HV8.out⟩
            subst hl8
            clear HV8
            gi_wp2
            go_roundw
            case rel => exact ⟨i + 1, l8, c8, a8, out ++ [(y : Int) - 48], rfl, by go_num, by omega, by rw [List.length_append, hol]; rfl, (by rw [List.map_append]; exact K8.out.1), (fun g hg => by
              rcases K8.out.2.2 g hg with h | h
              · exact HL.out.2.1 g h
              · have h1 := HL.out.2.2.1.size
                have h2 := HL.out.2.2.2.2.1
                omega), New.then HL.out.2.2.1 K8.out.2.1 (fun k hk => (HL.out.2.1 k hk).1), (by rw [HL.out.2.2.2.1]; exact HU.out.symm), Nat.lt_of_lt_of_le HL.out.2.2.2.2.1 K8.out.2.1.size, (fun j hj => K8.out.2.1.cell (HL.out.2.2.2.2.2 j hj) (fun e => (HL.out.2.1 _ e).2 rfl))⟩
            case measure => simp [intOf]; omega
          · obtain rfl : i = Z.size := by omega
            have bk := HI.out.2.1.new HL.out.2.2.1
            obtain ⟨d0, d1, d2, d3⟩ := bk.cells
            have hot : out = unT P := by
              have h := HL.out.2.2.2.1
              rw [HZ.out.1, List.take_length] at h
              exact h
            have HO := Lib.hid hot
            have HBK := Lib.hid bk
            have how := Lib.hid (HI.out.2.2.1.outer.new HL.out.2.2.1)
            clear bk hot
            gi_wp2_with (gi_at_builtin; refine wpListIn_app1 rfl _ _ _ rfl tyRow wr how.out rfl _ _ rfl rfl rfl (by omega) ?_; intro v8 w8 k1 k2 k3; obtain ⟨a8, c8, hv8, _, _⟩ := k1.shape'; obtain ⟨l8, hl8⟩ : ∃ l8, v8 = .slice a8 l8 c8 := ⟨_, hv8⟩; clear hv8; subst hl8; have b8 := HBK.out.chg k2 (fun e => own_blk2 how.out HBK.out (by decide) _ e rfl); obtain ⟨z0, z1, z2, z3⟩ := b8.cells; have K8 := Lib.hid (And.intro k1 (And.intro k2 (And.intro k3 b8))); clear k1 k2 k3 b8)
            have hS := H6.out.2.2.2.2
            have hsz := HSZ.out
            obtain ⟨m1, m2, m3⟩ := OwnR.push (xs := unT P) HI.out.2.2.1 HI.out.2.2.2.1 hsz HL.out.2.2.1 (by rw [← HO.out]; exact HL.out.1) (fun g hg => (HL.out.2.1 g hg).1) K8.out.1 K8.out.2.1 K8.out.2.2.1
            have hst := Chg.setCell w8 ⟨w2.heap.size, 1, none⟩ (.slice a8 l8 c8)
            have hall : Chg (fun k => (Value.slice ao l cc).ownBlock = some k ∨ k = w2.heap.size) W (w8.setCell ⟨w2.heap.size, 1, none⟩ (.slice a8 l8 c8)) := Chg.trans m3 hst (fun _ _ x => .inl x) (fun _ _ x => .inr x)
            have hub : ∀ k, (Value.slice ao l cc).ownBlock = some k → w6.heap.size + 2 ≤ k := HI.out.2.2.2.1.1
            refine ⟨⟨HI.out.1.chg hall ?_, ⟨a8, l8, c8, vs ++ [.slice ad l1 c1], K8.out.2.2.2.second _, ?_, ?_⟩, HI.out.2.2.2.2.then hall ?_⟩, hall.size, fun b hb => hall.block b ?_ ?_⟩
            · rintro (h | h)
              · have := hub _ h; omega
              · omega
            · rw [rowsP_succ HT.out, ← HZ.out.2]
              exact m1.chg hst (fun g hg => own_blk2 m1.outer K8.out.2.2.2 (by decide) g hg) (fun i hi g hg => own_blk2 (m1.inner i hi) K8.out.2.2.2 (by decide) g hg)
            · rw [rowsP_succ HT.out, ← HZ.out.2]
              exact m2
            · rintro i (h | h)
              · have := hub _ h; omega
              · omega
            · omega
            · rintro (h | h)
              · have := hub _ h; omega
              · omega
      case done =>
        intro W hI hK
        dsimp only
        obtain ⟨hres, ⟨ao, l, cc, vs, hbk, how, hfr⟩, hnw⟩ := hI
        rw [rowsP_all] at how hfr
        have hsl := splitB_len 47 B
        have hrl : ((splitB 47 B).map unT).length ≤ 1100001 := by rw [List.length_map]; omega
        have hvl : vs.length ≤ 1100001 := by rw [how.len]; exact hrl
        have hms : ∀ i, i < ((splitB 47 B).map unT).length → Mid (gr ((splitB 47 B).map unT) i).length := fun i hi => by
          rw [gr_lt hi, List.getElem_map, unT, List.length_map]
          have := hsl.2 _ (List.getElem_mem (l := splitB 47 B) (n := i) (by rw [List.length_map] at hi; exact hi))
          unfold Mid
          omega
        have KCl := Lib.hid (clipR_any _ vs W how.outer (by unfold Mid; omega))
        obtain ⟨rows, hrows⟩ : ∃ rows, rows = (splitB 47 B).map unT := ⟨_, rfl⟩
        rw [← hrows] at how hfr hrl hms
        obtain ⟨d0, d1, d2, d3⟩ := hbk.cells
        have HI := Lib.hid (And.intro hres (And.intro hbk (And.intro how (And.intro hfr (And.intro hnw (And.intro hK (And.intro hrl hms)))))))
        have HRW := Lib.hid hrows
        clear hres hbk how hfr hnw hK hrl hms hrows hsl
        go_wp2_with fail
        refine KCl.out.mono ?_
        rintro e w8 ⟨u, rfl, hou, hbu, rfl⟩
        obtain ⟨a8, c8, hu8, _, _⟩ := hou.shape'
        obtain ⟨l8, hl8⟩ : ∃ l8, u = .slice a8 l8 c8 := ⟨_, hu8⟩
        clear hu8
        subst hl8
        have b9 := HI.out.2.1.second (.slice a8 l8 c8)
        have hst := Chg.setCell W ⟨w2.heap.size, 1, none⟩ (.slice a8 l8 c8)
        have o9 : OwnR (W.setCell ⟨w2.heap.size, 1, none⟩ (.slice a8 l8 c8)) 53 3 (.slice a8 l8 c8) vs rows :=
          OwnR.chg ⟨hou, HI.out.2.2.1.len, HI.out.2.2.1.inner, HI.out.2.2.1.apart⟩ hst (fun g hg => own_blk2 hou HI.out.2.1 (by decide) g hg) (fun i hi g hg => own_blk2 (HI.out.2.2.1.inner i hi) HI.out.2.1 (by decide) g hg)
        have hfg : ∀ g, (Value.slice a8 l8 c8).ownBlock = some g → w6.heap.size + 2 ≤ g := fun g hg => HI.out.2.2.2.1.1 g (hbu.symm.trans hg)
        have HFG := Lib.hid hfg
        clear hfg
        have hfu : FromR w.heap.size (.slice a8 l8 c8) vs rows := ⟨fun g hg => by have := HI.out.2.2.2.1.1 g (by rw [← hbu]; exact hg); have := H6.out.2.2.2.2; omega, fun i hi => (HI.out.2.2.2.1.2 i hi).mono (by have := H6.out.2.2.2.2; omega)⟩
        obtain ⟨e0, e1, e2, e3⟩ := b9.cells
        have KT := Lib.hid (implCodeText_any v (.slice a8 l8 c8) rows _ (o9.isR (by have := HI.out.2.2.2.2.2.2.1; unfold Mid; omega) HI.out.2.2.2.2.2.2.2))
        have r9 := HI.out.1.chg hst (by simp only; omega)
        have n9 := HI.out.2.2.2.2.1.then hst (fun i hi => by simp only at hi; omega)
        have k9 := hst.heapAt HI.out.2.2.2.2.2.1 (by simp only; have := H6.out.2.2.2.2; omega)
        have H9 := Lib.hid (And.intro r9 (And.intro b9 (And.intro o9 (And.intro hfu (And.intro n9 k9)))))
        clear hou hbu b9 hst o9 hfu r9 n9 k9
        go_wp2_with fail
        refine KT.out.mono ?_
        rintro e w10 ⟨⟨s, rfl, hts⟩, hn10⟩
        have r10 := H9.out.1.new hn10
        have b10 := H9.out.2.1.new hn10
        obtain ⟨f0, f1, f2, f3⟩ := b10.cells
        obtain ⟨g0, g1, g2, g3⟩ := r10.cells
        have H10 := Lib.hid (And.intro r10 (And.intro (H9.out.2.2.1.new hn10) (And.intro (H9.out.2.2.2.2.1.trans hn10) (And.intro (hn10.heapAt H9.out.2.2.2.2.2 (fun x => x)) hts))))
        clear r10 b10 hn10 hts d0 d1 d2 d3 e0 e1 e2 e3
        have hS6 := H6.out.2.2.2.2
        by_cases hsS : s = S
        · have y9 := H10.out.1.both (.int .i64 v) (.slice a8 l8 c8)
          obtain ⟨_, _, hch⟩ := H10.out.1.put (.int .i64 v) (.slice a8 l8 c8)
          have hsb : Hid (s = bs L) := hsS.trans HS.out
          subst hsS
          have hpo := chg_putObj ((w10.setCell ⟨w.heap.size, 0, none⟩ (.int .i64 v)).setCell ⟨w.heap.size, 1, none⟩ (.slice a8 l8 c8)) w6.heap.size (.deferred none)
          have hk := hch.heapAt H10.out.2.2.2.1 (by omega)
          have y10 := y9.chg hpo (by omega)
          obtain ⟨x0, x1, _, _⟩ := y10.cells
          have hall := Chg.trans hch hpo (U := fun k => k = w.heap.size ∨ k = w6.heap.size) (fun _ _ x => .inl x) (fun _ _ x => .inr x)
          have o10 := H10.out.2.1.chg hall (fun g hg e => by
            rcases e with e | e
            · exact own_blk2 H10.out.2.1.outer H10.out.1 (by decide) g hg e
            · have := HFG.out g hg; omega) (fun i hi g hg e => by
            rcases e with e | e
            · exact own_blk2 (H10.out.2.1.inner i hi) H10.out.1 (by decide) g hg e
            · have := HI.out.2.2.2.1.2 i hi g hg; omega)
          have HE := Lib.hid (And.intro hk (And.intro o10 (H10.out.2.2.1.then hall (fun i hi => by omega))))
          clear y9 hch hpo hk y10 hall o10 hS6
          go_wp2_with fail
          refine ⟨by simp, .inl ⟨_, _, rfl, run_takeDeferred HE.out.1, ?_⟩⟩
          refine ⟨.tuple #[.agg #[.int .i64 v, .slice a8 l8 c8], .bool true], by simp [results, go_sem, x0, x1], ?_⟩
          have hts := H10.out.2.2.2.2
          rw [HRW.out] at hts
          exact ⟨_, vs, rows, v, true, rfl, HE.out.2.1, H9.out.2.2.2.1, by rw [HRW.out]; exact implParse_ok HC.out.1 hts hsb.out, HE.out.2.2⟩
        · have hne : (s.toList == S.toList) = false := beq_eq_false_iff_ne.2 (fun e => hsS (toList_inj e))
          have y9 := H10.out.1.both (.int .i64 0) (.slice none 0 0)
          obtain ⟨_, _, hch⟩ := H10.out.1.put (.int .i64 0) (.slice none 0 0)
          have hpo := chg_putObj ((w10.setCell ⟨w.heap.size, 0, none⟩ (.int .i64 0)).setCell ⟨w.heap.size, 1, none⟩ (.slice none 0 0)) w6.heap.size (.deferred none)
          have hk := hch.heapAt H10.out.2.2.2.1 (by omega)
          have y10 := y9.chg hpo (by omega)
          obtain ⟨x0, x1, _, _⟩ := y10.cells
          have hall := Chg.trans hch hpo (U := fun k => k = w.heap.size ∨ k = w6.heap.size) (fun _ _ x => .inl x) (fun _ _ x => .inr x)
          have HE := Lib.hid (And.intro hk (H10.out.2.2.1.then hall (fun i hi => by omega)))
          clear y9 hch hpo hk y10 hall hS6
          go_wp2_with fail
          refine ⟨by simp, .inl ⟨_, _, rfl, run_takeDeferred HE.out.1, ?_⟩⟩
          refine ⟨.tuple #[.agg #[.int .i64 0, .slice none 0 0], .bool false], by simp [results, go_sem, x0, x1], ?_⟩
          have hts := H10.out.2.2.2.2
          rw [HRW.out] at hts
          exact endP_zero (implParse_no HC.out.1 HC.out.2 HP.out hts (fun e => hsS (e.trans HS.out.symm))) HE.out.2
  · have HP := Lib.hid hp
    clear hp
    cases ok with
    | false =>
      go_wp2_with fail
      refine ⟨.tuple #[.agg #[.int .i64 0, .slice none 0 0], .bool false], by simp [results, go_sem, x0, x1], ?_⟩
      refine endP_zero ?_ HX.out
      rcases H1.out.1 with ⟨h, _⟩ | ⟨_, _, h⟩
      · cases h
      · exact parse_none h
    | true =>
      go_wp2_with fail
      refine ⟨.tuple #[.agg #[.int .i64 0, .slice none 0 0], .bool false], by simp [results, go_sem, x0, x1], ?_⟩
      refine endP_zero ?_ HX.out
      rcases H1.out.1 with ⟨_, h1, h2⟩ | ⟨h, _⟩
      · exact implParse_err h1 h2 HP.out
      · cases h
end Go.Proofs.YtcdbeepphdfipaaGreatDoor

/- The generators of a code and a set, a column, or a word. -/
import Derived.Test.YtgpmkbenjlhfhaaDrawK
import Derived.Test.YtgpmkbenjlhfhaaEnco
import Derived.Test.YtgpmkbenjlhfhaaBitL
namespace Go.Proofs.Ytgpmkbenjlhfhaa
open Go.RowKit
set_option linter.unusedVariables false

theorem ite_any {c : Prop} {inst : Decidable c} {a b x : Int} (h1 : c → a = x) (h2 : ¬ c → b = x) : @ite Int c inst a b = x := by
  split
  · rename_i h; exact h1 h
  · rename_i h; exact h2 h

set_option maxHeartbeats 2000000 in
set_option maxRecDepth 100000 in
theorem lostSet_any (g N : Nat) (p : Int) (v : Value) (rows : List (List Int)) (w : World) (hr : Rd w g N) (hN : N ≤ 900000) (hi : IsR w v rows) (hk : RowsK rows) :
    Calls Try.prog 85 #[.pointer (some ⟨g, 0, none⟩), .agg #[.int .i64 p, v]] w fun e w' => Picks g (N + 10) w e w' (fun x => True) := by
  have hg := hr.lt
  obtain ⟨ao, l, c, rfl, HL, hl⟩ := hi.shape
  have n0 := New.alloc w (.cells #[.int .i64 p, .slice ao l c] 25)
  have b0 := Blk2.alloc w (.int .i64 p) (.slice ao l c) 25
  have hi0 := hi.new n0
  have hr0 := hr.new n0
  obtain ⟨w0, hw0⟩ : ∃ w0, w0 = w.alloc (.cells #[.int .i64 p, .slice ao l c] 25) := ⟨_, rfl⟩
  rw [← hw0] at n0 b0 hi0 hr0
  have hl1 : 0 < l := by rw [HL.out]; have := hk.1; omega
  obtain ⟨b, o, u, rfl, ck, hu⟩ := hi0.at hl1
  rw [Nat.add_zero] at ck
  obtain ⟨a2, m, c2, rfl, HM, hm⟩ := hu.shape
  have hm8 : m ≤ 8 := by rw [HM.out]; have := (hk.2 0 (by have := hk.1; omega)).2; exact this
  obtain ⟨q0, q1, _, _⟩ := b0.cells
  have HG := Lib.hid hg
  have H0 := Lib.hid (And.intro n0 hr0)
  clear hr hi hk hg n0 b0 hi0 hr0 hu
  obtain ⟨M, hM⟩ : ∃ M : Nat, M = min m 7 := ⟨_, rfl⟩
  have hM7 : M ≤ 7 := by omega
  have hp : 2 ^ M ≤ 128 := pow_lt hM7
  have hp0 : 1 ≤ 2 ^ M := Nat.two_pow_pos _
  obtain ⟨P, hP⟩ : ∃ P, P = 2 ^ M := ⟨_, rfl⟩
  rw [← hP] at hp hp0
  have HP := Lib.hid hP
  have HMM := Lib.hid hM
  clear hP hM
  go_enter Try.func85, Try.ntmps85
  go_upto_region 1 with fail
  rw [← hw0]
  clear hw0
  go_upto_region 4 with fail
  rw [ite_any (c := (7 : Int) < (m : Int)) (a := 7) (b := m) (x := M) (fun _ => by have := HMM.out; omega) (fun _ => by have := HMM.out; omega)]
  clear hl ck q0 q1
  go_wp2_with fail
  refine (pick_any g N 24 _ H0.out.2 (by omega) (by omega)).mono ?_
  rintro e w1 ⟨x, rfl, hx, hr1, hc1⟩
  have H1 := Lib.hid (And.intro hr1 (Chg.trans H0.out.1 hc1 (fun _ _ x => x.elim) (fun _ _ x => x) (U := (· = g))))
  clear hr1 hc1 hx
  by_cases hx0 : x = 0
  · subst hx0
    go_wp2_with (go_at_call 88; refine (power_any M _ (by omega)).mono ?_; rintro e w' ⟨rfl, rfl⟩; rw [← HP.out])
    refine (one_lit g (N + 1) (fun _ => True) [-1, (P : Int), 0] _ _ _ _ rfl rfl H1.out.1 (by omega) (by simp) (by simp) (fun _ _ => trivial)).mono ?_
    rintro e w2 ⟨y, rfl, -, hr2, hc2⟩
    have H2 := Lib.hid (And.intro hr2 (Chg.trans H1.out.2 hc2 (fun _ _ x => x) (fun _ _ x => x) (U := (· = g))))
    clear hr2 hc2
    go_wp2_with fail
    go_ret
    exact ⟨y, rfl, trivial, H2.out.1.mono (by omega), H2.out.2⟩
  · have hd0 : (x == 0) = false := beq_eq_false_iff_ne.2 hx0
    go_wp2_with fail
    refine (pick_any g (N + 1) 3 _ H1.out.1 (by omega) (by omega)).mono ?_
    rintro e w2 ⟨y, rfl, hy, hr2, hc2⟩
    have H2 := Lib.hid (And.intro hr2 (Chg.trans H1.out.2 hc2 (fun _ _ x => x) (fun _ _ x => x) (U := (· = g))))
    clear hr2 hc2 hy
    by_cases hy0 : y = 0
    · subst hy0
      go_wp2_with (go_at_call 88; refine (power_any M _ (by omega)).mono ?_; rintro e w' ⟨rfl, rfl⟩; rw [← HP.out])
      refine (pick_any g (N + 2) P _ H2.out.1 (by omega) (by omega)).mono ?_
      rintro e w3 ⟨z, rfl, hz, hr3, hc3⟩
      have H3 := Lib.hid (And.intro hr3 (Chg.trans H2.out.2 hc3 (fun _ _ x => x) (fun _ _ x => x) (U := (· = g))))
      clear hr3 hc3 hz
      go_wp2_with fail
      go_ret
      exact ⟨z, rfl, trivial, H3.out.1.mono (by omega), H3.out.2⟩
    · have hd1 : (y == 0) = false := beq_eq_false_iff_ne.2 hy0
      go_wp2_with (go_at_call 88; refine (power_any M _ (by omega)).mono ?_; rintro e w' ⟨rfl, rfl⟩; rw [← HP.out])
      refine (pick_any g (N + 2) P _ H2.out.1 (by omega) (by omega)).mono ?_
      rintro e w3 ⟨z, rfl, hz, hr3, hc3⟩
      have H3 := Lib.hid (And.intro hr3 (Chg.trans H2.out.2 hc3 (fun _ _ x => x) (fun _ _ x => x) (U := (· = g))))
      clear hr3 hc3 hz
      go_wp2_with (go_at_call 88; refine (power_any M _ (by omega)).mono ?_; rintro e w' ⟨rfl, rfl⟩; rw [← HP.out])
      refine (pick_any g (N + 3) P _ H3.out.1 (by omega) (by omega)).mono ?_
      rintro e w4 ⟨z2, rfl, hz2, hr4, hc4⟩
      have H4 := Lib.hid (And.intro hr4 (Chg.trans H3.out.2 hc4 (fun _ _ x => x) (fun _ _ x => x) (U := (· = g))))
      clear hr4 hc4 hz2
      go_wp2_with fail
      go_ret
      exact ⟨_, rfl, trivial, H4.out.1.mono (by omega), H4.out.2⟩

/-- A block of a code's cells holds no bytes. -/
theorem Rd.code {w w' : World} {g G N : Nat} {p : Int} {ao : Option Addr} {l c : Nat} {t : TypeId} (h : Rd w g N) (hb : Blk2 w G (.int .i64 p) (.slice ao l c) t) (hne : G ≠ g) (hc : Chg (· = G) w w') : Rd w' g N := by
  obtain ⟨v, k, n, h1, h2, h3, ⟨a', cap, e, h4, h5, h6⟩⟩ := h
  refine ⟨v, k, n, h1.chg hc (fun e => hne e.symm), h2, h3, a', cap, e, h4, h5, fun i hi => ?_⟩
  obtain ⟨b, o, x, hbg, rfl, hcell, hx⟩ := h6 i hi
  refine ⟨b, o, x, hbg, rfl, hc.cell hcell (fun e => ?_), hx⟩
  have e' : b = G := e
  rw [e', cell_of_heap (show w.heap[G]? = some (.cells #[.int .i64 p, .slice ao l c] t (0, 0)) from hb)] at hcell
  match o + i, hcell with
  | 0, hcell => simp at hcell
  | 1, hcell => simp at hcell
  | j + 2, hcell => simp at hcell

/-- It ends with a code of its own, that may be invalid, and a number. -/
def DrawsKN (w : World) (e : Ending) (w' : World) : Prop :=
  ∃ a l c vs out p x, e = .returned (.tuple #[.agg #[.int .i64 p, .slice a l c], .int .i64 x]) ∧ OwnR w' 28 3 (.slice a l c) vs out ∧ RowsK out ∧ (0 ≤ p ∧ p ≤ 7) ∧ New w w'

set_option maxRecDepth 100000 in
set_option maxHeartbeats 4000000 in
theorem drawIsMendable_any (v : Value) (n : Nat) (w : World) (hb : RawB w v n) :
    Calls Try.prog 33 #[v] w fun e w' => DrawsKN w e w' := by
  obtain ⟨ao, cap, rfl, -⟩ := id hb
  have r0 := Blk2.alloc w (.int .i64 0) (.slice none 0 0) 25
  have n0 := New.alloc w (.cells #[.int .i64 0, .slice none 0 0] 25)
  have hb0 := hb.new n0
  obtain ⟨w0, hw0⟩ : ∃ w0, w0 = w.alloc (.cells #[.int .i64 0, .slice none 0 0] 25) := ⟨_, rfl⟩
  rw [← hw0] at r0 n0 hb0
  have hs0 : w.heap.size < w0.heap.size := Blk2.lt r0
  clear hb
  go_enter Try.func33, Try.ntmps33
  go_upto_region 1 with fail
  rw [← hw0]
  have H0 := Lib.hid (And.intro r0 (And.intro n0 (And.intro hs0 hb0)))
  clear r0 n0 hw0 hs0 hb0
  go_wp2_with fail
  refine (newReader_any _ _ _ H0.out.2.2.2).mono ?_
  rintro e w1 ⟨rfl, hr1, hn1⟩
  have H1 := Lib.hid (And.intro hr1 hn1)
  clear hr1 hn1
  go_wp2_with fail
  refine (someCode_any w0.heap.size 0 _ H1.out.1 (by omega)).mono ?_
  rintro e w2 ⟨a, l, c, vs, out, p, rfl, ho, hf, hq, hp, hr2, hc2⟩
  have hn2 := H1.out.2.of_chg hc2 (fun k hk => Nat.le_of_eq hk.symm)
  have b2 := H0.out.1.new hn2
  go_upto_region 3 with fail
  have b3 := Blk2.alloc w2 (.int .i64 p) (.slice a l c) 25
  have n3 := New.alloc w2 (.cells #[.int .i64 p, .slice a l c] 25)
  obtain ⟨w3, hw3⟩ : ∃ w3, w3 = w2.alloc (.cells #[.int .i64 p, .slice a l c] 25) := ⟨_, rfl⟩
  rw [← hw3] at b3 n3
  rw [← hw3]
  have hlt : w0.heap.size < w2.heap.size := hr2.lt
  clear hw3
  -- the world behind the store
  have bA := b2.new n3
  have cA := bA.put (.int .i64 p) (.slice a l c)
  have H3 := Lib.hid (And.intro (hr2.new n3) (And.intro (ho.new n3) (And.intro hq (And.intro (H0.out.2.1.trans (hn2.trans n3)) (And.intro bA b3)))))
  obtain ⟨q0, q1, _, _⟩ := b3.cells
  obtain ⟨d0, d1, d2, d3⟩ := bA.cells
  have HF := Lib.hid hf
  have HLT := Lib.hid (And.intro hlt (And.intro H0.out.2.2.1 H1.out.1.lt))
  clear hr2 hq hn2 n3 b3 b2 hc2 ho hf bA cA hlt
  go_region_held3 (fun w' => w'.cell? ⟨w2.heap.size, 0, none⟩ = some (.int .i64 p) ∧ w'.cell? ⟨w2.heap.size, 1, none⟩ = some (.slice a l c)) (first | exact ⟨K5.out.2.1, K5.out.2.2.1⟩ | exact ⟨K5.out.2.2.2.2.1, K5.out.2.2.2.2.2.1⟩ | exact ⟨(HXQ.out 0 (.inl rfl)).trans q0, (HXQ.out 1 (.inr rfl)).trans q1⟩ | go_keep) (first
    | (go_at_call 85
       refine (lostSet_any w0.heap.size 4000 p _ out _ (H3.out.1.new (New.drew _)) (by omega) ((H3.out.2.1.new (New.drew _)).isR H3.out.2.2.1.mid.1 H3.out.2.2.1.mid.2) H3.out.2.2.1).mono ?_
       rintro e w5 ⟨x, rfl, -, hr5, hc5⟩
       have hc : Chg (· = w0.heap.size) w3 w5 := Chg.trans (New.drew w3) hc5 (fun _ _ x => x.elim) (fun _ _ x => x)
       have hb5 := H3.out.2.2.2.2.1.chg hc (fun e => by have := HLT.out.2.1; omega)
       obtain ⟨d0, d1, d2, d3⟩ := hb5.cells
       have hq0 := hc.cell q0 (fun e => by have := HLT.out.1; simp at e; omega)
       have hq1 := hc.cell q1 (fun e => by have := HLT.out.1; simp at e; omega)
       obtain ⟨x0, x1, hx⟩ := hb5.put (.int .i64 p) (.slice a l c)
       have hne : ¬ w2.heap.size = w.heap.size := by have := HLT.out.1; have := HLT.out.2.1; omega
       have K5 := Lib.hid (And.intro hc (And.intro hq0 (And.intro hq1 (And.intro hx (And.intro (hx.cell hq0 hne) (And.intro (hx.cell hq1 hne) (And.intro x0 x1)))))))
       clear hr5 hc5 hc hq0 hq1 hb5 x0 x1 hx))
  go_wp2_with fail
  obtain ⟨y0, y1⟩ := K5.out.2.2.2.2.2.2
  refine bodyPost_ret (v := .tuple #[.agg #[.int .i64 p, .slice a l c], .int .i64 x]) (by simp [results, go_sem, y0, y1]) rfl ?_
  exact ⟨a, l, c, vs, out, p, x, rfl, ((H3.out.2.1.chg K5.out.1 (fun b hb e => by have := HF.out.1 b hb; have := HLT.out.2.2; omega) (fun i hi b hb e => by have := HF.out.2 i hi b hb; have := HLT.out.2.2; omega)).chg K5.out.2.2.2.1 (own_ne_blk2 H3.out.2.1.outer H3.out.2.2.2.2.1 (by decide)) (fun i hi => own_ne_blk2 (H3.out.2.1.inner i hi) H3.out.2.2.2.2.1 (by decide))), H3.out.2.2.1, hp, (H3.out.2.2.2.1.then K5.out.1 (fun b hb => by have := HLT.out.2.1; omega)).then K5.out.2.2.2.1 (fun b hb => by omega)⟩
set_option maxRecDepth 100000 in
set_option maxHeartbeats 4000000 in
theorem drawHelpersOf_any (v : Value) (n : Nat) (w : World) (hb : RawB w v n) :
    Calls Try.prog 51 #[v] w fun e w' => DrawsKN w e w' := by
  obtain ⟨ao, cap, rfl, -⟩ := id hb
  have r0 := Blk2.alloc w (.int .i64 0) (.slice none 0 0) 25
  have n0 := New.alloc w (.cells #[.int .i64 0, .slice none 0 0] 25)
  have hb0 := hb.new n0
  obtain ⟨w0, hw0⟩ : ∃ w0, w0 = w.alloc (.cells #[.int .i64 0, .slice none 0 0] 25) := ⟨_, rfl⟩
  rw [← hw0] at r0 n0 hb0
  have hs0 : w.heap.size < w0.heap.size := Blk2.lt r0
  clear hb
  go_enter Try.func51, Try.ntmps51
  go_upto_region 1 with fail
  rw [← hw0]
  have H0 := Lib.hid (And.intro r0 (And.intro n0 (And.intro hs0 hb0)))
  clear r0 n0 hw0 hs0 hb0
  go_wp2_with fail
  refine (newReader_any _ _ _ H0.out.2.2.2).mono ?_
  rintro e w1 ⟨rfl, hr1, hn1⟩
  have H1 := Lib.hid (And.intro hr1 hn1)
  clear hr1 hn1
  go_wp2_with fail
  refine (someCode_any w0.heap.size 0 _ H1.out.1 (by omega)).mono ?_
  rintro e w2 ⟨a, l, c, vs, out, p, rfl, ho, hf, hq, hp, hr2, hc2⟩
  have hn2 := H1.out.2.of_chg hc2 (fun k hk => Nat.le_of_eq hk.symm)
  have b2 := H0.out.1.new hn2
  go_upto_region 3 with fail
  have b3 := Blk2.alloc w2 (.int .i64 p) (.slice a l c) 25
  have n3 := New.alloc w2 (.cells #[.int .i64 p, .slice a l c] 25)
  obtain ⟨w3, hw3⟩ : ∃ w3, w3 = w2.alloc (.cells #[.int .i64 p, .slice a l c] 25) := ⟨_, rfl⟩
  rw [← hw3] at b3 n3
  rw [← hw3]
  have hlt : w0.heap.size < w2.heap.size := hr2.lt
  clear hw3
  -- the world behind the store
  have bA := b2.new n3
  have cA := bA.put (.int .i64 p) (.slice a l c)
  have H3 := Lib.hid (And.intro (hr2.new n3) (And.intro (ho.new n3) (And.intro hq (And.intro (H0.out.2.1.trans (hn2.trans n3)) (And.intro bA b3)))))
  obtain ⟨q0, q1, _, _⟩ := b3.cells
  obtain ⟨d0, d1, d2, d3⟩ := bA.cells
  have HF := Lib.hid hf
  have HLT := Lib.hid (And.intro hlt (And.intro H0.out.2.2.1 H1.out.1.lt))
  clear hr2 hq hn2 n3 b3 b2 hc2 ho hf bA cA hlt
  go_region_held3 (fun w' => w'.cell? ⟨w2.heap.size, 0, none⟩ = some (.int .i64 p) ∧ w'.cell? ⟨w2.heap.size, 1, none⟩ = some (.slice a l c)) (first | exact ⟨K5.out.2.1, K5.out.2.2.1⟩ | exact ⟨K5.out.2.2.2.2.1, K5.out.2.2.2.2.2.1⟩ | exact ⟨(HXQ.out 0 (.inl rfl)).trans q0, (HXQ.out 1 (.inr rfl)).trans q1⟩ | go_keep) (first
    | (go_at_call 99
       refine (one_any w0.heap.size 4000 _ [0, 1, 2, 3, 4, 6, -1] _ (H3.out.1.new ((New.drew _).trans (New.alloc _ _))) (by omega) (IsI.lit w3.drew 3 [0, 1, 2, 3, 4, 6, -1] (by simp)) (by simp) (by simp) (fun b hb => by have := H3.out.1.lt; simp [Value.ownBlock] at hb; omega)).mono ?_
       rintro e w5 ⟨x, rfl, -, hr5, hc5⟩
       have hc : Chg (· = w0.heap.size) w3 w5 := Chg.trans ((New.drew w3).trans (New.alloc w3.drew (.cells #[.int .i64 0, .int .i64 1, .int .i64 2, .int .i64 3, .int .i64 4, .int .i64 6, .int .i64 (-1)] 3))) hc5 (fun _ _ x => x.elim) (fun _ _ x => x)
       have hb5 := H3.out.2.2.2.2.1.chg hc (fun e => by have := HLT.out.2.1; omega)
       obtain ⟨d0, d1, d2, d3⟩ := hb5.cells
       have hq0 := hc.cell q0 (fun e => by have := HLT.out.1; simp at e; omega)
       have hq1 := hc.cell q1 (fun e => by have := HLT.out.1; simp at e; omega)
       obtain ⟨x0, x1, hx⟩ := hb5.put (.int .i64 p) (.slice a l c)
       have hne : ¬ w2.heap.size = w.heap.size := by have := HLT.out.1; have := HLT.out.2.1; omega
       have K5 := Lib.hid (And.intro hc (And.intro hq0 (And.intro hq1 (And.intro hx (And.intro (hx.cell hq0 hne) (And.intro (hx.cell hq1 hne) (And.intro x0 x1)))))))
       clear hr5 hc5 hc hq0 hq1 hb5 x0 x1 hx))
  go_wp2_with fail
  obtain ⟨y0, y1⟩ := K5.out.2.2.2.2.2.2
  refine bodyPost_ret (v := .tuple #[.agg #[.int .i64 p, .slice a l c], .int .i64 x]) (by simp [results, go_sem, y0, y1]) rfl ?_
  exact ⟨a, l, c, vs, out, p, x, rfl, ((H3.out.2.1.chg K5.out.1 (fun b hb e => by have := HF.out.1 b hb; have := HLT.out.2.2; omega) (fun i hi b hb e => by have := HF.out.2 i hi b hb; have := HLT.out.2.2; omega)).chg K5.out.2.2.2.1 (own_ne_blk2 H3.out.2.1.outer H3.out.2.2.2.2.1 (by decide)) (fun i hi => own_ne_blk2 (H3.out.2.1.inner i hi) H3.out.2.2.2.2.1 (by decide))), H3.out.2.2.1, hp, (H3.out.2.2.2.1.then K5.out.1 (fun b hb => by have := HLT.out.2.1; omega)).then K5.out.2.2.2.1 (fun b hb => by omega)⟩
/-- It ends with a code of its own, that may be invalid, and a list of numbers. -/
def DrawsKI (w : World) (e : Ending) (w' : World) : Prop :=
  ∃ a l c vs out p a5 l5 c5, ∃ xs : List Int, e = .returned (.tuple #[.agg #[.int .i64 p, .slice a l c], .slice a5 l5 c5]) ∧ OwnR w' 28 3 (.slice a l c) vs out ∧ RowsK out ∧ (0 ≤ p ∧ p ≤ 7) ∧ Own w' 3 (.slice a5 l5 c5) (xs.map (Value.int .i64)) ∧ xs.length ≤ 1001 ∧ New w w'

set_option maxRecDepth 100000 in
set_option maxHeartbeats 4000000 in
theorem drawEncodeWord_any (v : Value) (n : Nat) (w : World) (hb : RawB w v n) :
    Calls Try.prog 26 #[v] w fun e w' => DrawsKI w e w' := by
  obtain ⟨ao, cap, rfl, -⟩ := id hb
  have r0 := Blk2.alloc w (.int .i64 0) (.slice none 0 0) 25
  have n0 := New.alloc w (.cells #[.int .i64 0, .slice none 0 0] 25)
  have hb0 := hb.new n0
  obtain ⟨w0, hw0⟩ : ∃ w0, w0 = w.alloc (.cells #[.int .i64 0, .slice none 0 0] 25) := ⟨_, rfl⟩
  rw [← hw0] at r0 n0 hb0
  have hs0 : w.heap.size < w0.heap.size := Blk2.lt r0
  clear hb
  go_enter Try.func26, Try.ntmps26
  go_upto_region 1 with fail
  rw [← hw0]
  have H0 := Lib.hid (And.intro r0 (And.intro n0 (And.intro hs0 hb0)))
  clear r0 n0 hw0 hs0 hb0
  go_wp2_with fail
  refine (newReader_any _ _ _ H0.out.2.2.2).mono ?_
  rintro e w1 ⟨rfl, hr1, hn1⟩
  have H1 := Lib.hid (And.intro hr1 hn1)
  clear hr1 hn1
  go_wp2_with fail
  refine (someCode_any w0.heap.size 0 _ H1.out.1 (by omega)).mono ?_
  rintro e w2 ⟨a, l, c, vs, out, p, rfl, ho, hf, hq, hp, hr2, hc2⟩
  have hn2 := H1.out.2.of_chg hc2 (fun k hk => Nat.le_of_eq hk.symm)
  have b2 := H0.out.1.new hn2
  go_upto_region 3 with fail
  have b3 := Blk2.alloc w2 (.int .i64 p) (.slice a l c) 25
  have n3 := New.alloc w2 (.cells #[.int .i64 p, .slice a l c] 25)
  obtain ⟨w3, hw3⟩ : ∃ w3, w3 = w2.alloc (.cells #[.int .i64 p, .slice a l c] 25) := ⟨_, rfl⟩
  rw [← hw3] at b3 n3
  rw [← hw3]
  have hlt : w0.heap.size < w2.heap.size := hr2.lt
  clear hw3
  -- the world behind the store
  have bA := b2.new n3
  have cA := bA.put (.int .i64 p) (.slice a l c)
  have H3 := Lib.hid (And.intro (hr2.new n3) (And.intro (ho.new n3) (And.intro hq (And.intro (H0.out.2.1.trans (hn2.trans n3)) (And.intro bA b3)))))
  obtain ⟨q0, q1, _, _⟩ := b3.cells
  obtain ⟨d0, d1, d2, d3⟩ := bA.cells
  have HF := Lib.hid hf
  have hl8 : (l : Int) ≤ 8 := by have h1 := ho.outer.len; have h2 := ho.len; have h3 := hq.1; omega
  have HLT := Lib.hid (And.intro hlt (And.intro H0.out.2.2.1 H1.out.1.lt))
  clear hr2 hq hn2 n3 b3 b2 hc2 ho hf bA cA hlt
  go_region_held3 (fun w' => w'.cell? ⟨w2.heap.size, 0, none⟩ = some (.int .i64 p) ∧ w'.cell? ⟨w2.heap.size, 1, none⟩ = some (.slice a l c)) (first | exact ⟨K5.out.2.1, K5.out.2.2.1⟩ | exact ⟨K5.out.2.2.2.2.1, K5.out.2.2.2.2.2.1⟩ | exact ⟨(HXQ.out 0 (.inl rfl)).trans q0, (HXQ.out 1 (.inr rfl)).trans q1⟩ | go_keep) (first
    | (go_at_call 78
       refine (aWord_any w0.heap.size 4000 p _ _ (H3.out.1.new (New.drew _)) (by omega) (by omega) (by omega)).mono ?_
       rintro e w5 ⟨u5, xs, rfl, ho5, hf5, hl5, hr5, hc5⟩
       obtain ⟨a5, l5, c5, rfl, HL5, _, _⟩ := ho5.opened (by rw [List.length_map]; unfold Mid; omega)
       have KW := Lib.hid (And.intro ho5 hl5.2.1)
       clear ho5 hf5 hl5
       have hc : Chg (· = w0.heap.size) w3 w5 := Chg.trans (New.drew w3) hc5 (fun _ _ x => x.elim) (fun _ _ x => x)
       have hb5 := H3.out.2.2.2.2.1.chg hc (fun e => by have := HLT.out.2.1; omega)
       obtain ⟨d0, d1, d2, d3⟩ := hb5.cells
       have hq0 := hc.cell q0 (fun e => by have := HLT.out.1; simp at e; omega)
       have hq1 := hc.cell q1 (fun e => by have := HLT.out.1; simp at e; omega)
       obtain ⟨x0, x1, hx⟩ := hb5.put (.int .i64 p) (.slice a l c)
       have hne : ¬ w2.heap.size = w.heap.size := by have := HLT.out.1; have := HLT.out.2.1; omega
       have K5 := Lib.hid (And.intro hc (And.intro hq0 (And.intro hq1 (And.intro hx (And.intro (hx.cell hq0 hne) (And.intro (hx.cell hq1 hne) (And.intro x0 x1)))))))
       clear hr5 hc5 hc hq0 hq1 hb5 x0 x1 hx))
  go_wp2_with fail
  obtain ⟨y0, y1⟩ := K5.out.2.2.2.2.2.2
  have hw := (KW.out.1.chg K5.out.2.2.2.1 (own_ne_blk2 KW.out.1 (H3.out.2.2.2.2.1.chg K5.out.1 (fun e => by have := HLT.out.2.1; omega)) (by decide)))
  refine bodyPost_ret (v := .tuple #[.agg #[.int .i64 p, .slice a l c], .slice a5 l5 c5]) (by simp [results, go_sem, y0, y1]) rfl ?_
  exact ⟨a, l, c, vs, out, p, a5, l5, c5, xs, rfl, ((H3.out.2.1.chg K5.out.1 (fun b hb e => by have := HF.out.1 b hb; have := HLT.out.2.2; omega) (fun i hi b hb e => by have := HF.out.2 i hi b hb; have := HLT.out.2.2; omega)).chg K5.out.2.2.2.1 (own_ne_blk2 H3.out.2.1.outer H3.out.2.2.2.2.1 (by decide)) (fun i hi => own_ne_blk2 (H3.out.2.1.inner i hi) H3.out.2.2.2.2.1 (by decide))), H3.out.2.2.1, hp, hw, KW.out.2, (H3.out.2.2.2.1.then K5.out.1 (fun b hb => by have := HLT.out.2.1; omega)).then K5.out.2.2.2.1 (fun b hb => by omega)⟩
/-- A code's block is none of rows or of numbers. -/
theorem OwnR.code2 {w w' : World} {G : Nat} {x y v : Value} {vs : List Value} {rows : List (List Int)} (h : OwnR w 28 3 v vs rows) (hb : Blk2 w G x y 25) (hc : Chg (· = G) w w') : OwnR w' 28 3 v vs rows :=
  h.chg hc (own_ne_blk2 h.outer hb (by decide)) (fun i hi => own_ne_blk2 (h.inner i hi) hb (by decide))
theorem Own.code2 {w w' : World} {G : Nat} {x y v : Value} {xs : List Value} (h : Own w 3 v xs) (hb : Blk2 w G x y 25) (hc : Chg (· = G) w w') : Own w' 3 v xs := h.chg hc (own_ne_blk2 h hb (by decide))
set_option maxHeartbeats 2000000 in
theorem drawPeelOf_any (v : Value) (n : Nat) (w : World) (hb : RawB w v n) :
    Calls Try.prog 43 #[v] w fun e w' => DrawsKN w e w' := by
  obtain ⟨ao, cap, rfl, -⟩ := id hb
  have r0 := Blk2.alloc w (.int .i64 0) (.slice none 0 0) 25
  have n0 := New.alloc w (.cells #[.int .i64 0, .slice none 0 0] 25)
  have hb0 := hb.new n0
  obtain ⟨w0, hw0⟩ : ∃ w0, w0 = w.alloc (.cells #[.int .i64 0, .slice none 0 0] 25) := ⟨_, rfl⟩
  rw [← hw0] at r0 n0 hb0
  clear hb
  go_enter Try.func43, Try.ntmps43
  go_upto_region 1 with fail
  rw [← hw0]
  have H0 := Lib.hid (And.intro r0 (And.intro n0 hb0))
  clear r0 n0 hw0 hb0
  go_wp2_with fail
  refine (drawIsMendable_any _ _ _ H0.out.2.2).mono ?_
  rintro e w1 ⟨a, l, c, vs, out, p, x, rfl, hi, hk, hp, hn⟩
  have b1 := H0.out.1.new hn
  obtain ⟨q0, q1, q2, q3⟩ := b1.cells
  have H1 := Lib.hid (And.intro hi (And.intro hn b1))
  clear hi hn b1
  go_wp2_with fail
  obtain ⟨x0, x1, hx⟩ := H1.out.2.2.put (.int .i64 p) (.slice a l c)
  refine bodyPost_ret (v := .tuple #[.agg #[.int .i64 p, .slice a l c], .int .i64 x]) (by simp [results, go_sem, x0, x1]) rfl ?_
  exact ⟨a, l, c, vs, out, p, x, rfl, H1.out.1.code2 H1.out.2.2 hx, hk, hp, (H0.out.2.1.trans H1.out.2.1).then hx (fun i hi => Nat.le_of_eq hi.symm)⟩

set_option maxHeartbeats 2000000 in
theorem drawReadsOf_any (v : Value) (n : Nat) (w : World) (hb : RawB w v n) :
    Calls Try.prog 55 #[v] w fun e w' => DrawsKN w e w' := by
  obtain ⟨ao, cap, rfl, -⟩ := id hb
  have r0 := Blk2.alloc w (.int .i64 0) (.slice none 0 0) 25
  have n0 := New.alloc w (.cells #[.int .i64 0, .slice none 0 0] 25)
  have hb0 := hb.new n0
  obtain ⟨w0, hw0⟩ : ∃ w0, w0 = w.alloc (.cells #[.int .i64 0, .slice none 0 0] 25) := ⟨_, rfl⟩
  rw [← hw0] at r0 n0 hb0
  clear hb
  go_enter Try.func55, Try.ntmps55
  go_upto_region 1 with fail
  rw [← hw0]
  have H0 := Lib.hid (And.intro r0 (And.intro n0 hb0))
  clear r0 n0 hw0 hb0
  go_wp2_with fail
  refine (drawHelpersOf_any _ _ _ H0.out.2.2).mono ?_
  rintro e w1 ⟨a, l, c, vs, out, p, x, rfl, hi, hk, hp, hn⟩
  have b1 := H0.out.1.new hn
  obtain ⟨q0, q1, q2, q3⟩ := b1.cells
  have H1 := Lib.hid (And.intro hi (And.intro hn b1))
  clear hi hn b1
  go_wp2_with fail
  obtain ⟨x0, x1, hx⟩ := H1.out.2.2.put (.int .i64 p) (.slice a l c)
  refine bodyPost_ret (v := .tuple #[.agg #[.int .i64 p, .slice a l c], .int .i64 x]) (by simp [results, go_sem, x0, x1]) rfl ?_
  exact ⟨a, l, c, vs, out, p, x, rfl, H1.out.1.code2 H1.out.2.2 hx, hk, hp, (H0.out.2.1.trans H1.out.2.1).then hx (fun i hi => Nat.le_of_eq hi.symm)⟩

end Go.Proofs.Ytgpmkbenjlhfhaa

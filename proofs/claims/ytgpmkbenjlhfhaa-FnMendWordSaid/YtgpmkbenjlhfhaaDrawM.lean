/- The generators of a code and a word of it of which some numbers are lost. -/
import Derived.Test.YtgpmkbenjlhfhaaGenX
namespace Go.Proofs.Ytgpmkbenjlhfhaa
open Go.RowKit
set_option linter.unusedVariables false

set_option maxRecDepth 100000 in
set_option maxHeartbeats 4000000 in
theorem drawCountMends_any (v : Value) (n : Nat) (w : World) (hb : RawB w v n) :
    Calls Try.prog 58 #[v] w fun e w' => DrawsKI w e w' := by
  obtain ⟨ao, cap, rfl, -⟩ := id hb
  have r0 := Blk2.alloc w (.int .i64 0) (.slice none 0 0) 25
  have n0 := New.alloc w (.cells #[.int .i64 0, .slice none 0 0] 25)
  have hb0 := hb.new n0
  obtain ⟨w0, hw0⟩ : ∃ w0, w0 = w.alloc (.cells #[.int .i64 0, .slice none 0 0] 25) := ⟨_, rfl⟩
  rw [← hw0] at r0 n0 hb0
  have hs0 : w.heap.size < w0.heap.size := Blk2.lt r0
  clear hb
  go_enter Try.func58, Try.ntmps58
  go_upto_region 1 with fail
  rw [← hw0]
  have H0 := Lib.hid (And.intro r0 (And.intro n0 (And.intro hs0 hb0)))
  clear r0 n0 hw0 hs0 hb0
  go_wp2_with fail
  refine (newReader_any _ _ _ H0.out.2.2.2).mono ?_
  rintro e w1 ⟨rfl, hr1, hn1⟩
  have H1 := Lib.hid (And.intro hr1 hn1)
  clear hr1 hn1
  go_wp2_with fail
  refine (someCode_any w0.heap.size 0 _ H1.out.1 (by omega)).mono ?_
  rintro e w2 ⟨a, l, c, vs, out, p, rfl, ho, hf, hq, hp, hr2, hc2⟩
  have hn2 := H1.out.2.of_chg hc2 (fun k hk => Nat.le_of_eq hk.symm)
  have b2 := H0.out.1.new hn2
  go_upto_region 3 with fail
  have b3 := Blk2.alloc w2 (.int .i64 p) (.slice a l c) 25
  have n3 := New.alloc w2 (.cells #[.int .i64 p, .slice a l c] 25)
  obtain ⟨w3, hw3⟩ : ∃ w3, w3 = w2.alloc (.cells #[.int .i64 p, .slice a l c] 25) := ⟨_, rfl⟩
  rw [← hw3] at b3 n3
  rw [← hw3]
  have hlt : w0.heap.size < w2.heap.size := hr2.lt
  clear hw3
  -- the world behind the store
  have bA := b2.new n3
  have cA := bA.put (.int .i64 p) (.slice a l c)
  have H3 := Lib.hid (And.intro (hr2.new n3) (And.intro (ho.new n3) (And.intro hq (And.intro (H0.out.2.1.trans (hn2.trans n3)) (And.intro bA b3)))))
  obtain ⟨q0, q1, _, _⟩ := b3.cells
  obtain ⟨d0, d1, d2, d3⟩ := bA.cells
  have HF := Lib.hid hf
  have hl8 : (l : Int) ≤ 8 := by have h1 := ho.outer.len; have h2 := ho.len; have h3 := hq.1; omega
  have HLT := Lib.hid (And.intro hlt (And.intro H0.out.2.2.1 H1.out.1.lt))
  clear hr2 hq hn2 n3 b3 b2 hc2 ho hf bA cA hlt
  go_region_held3 (fun w' => w'.cell? ⟨w2.heap.size, 0, none⟩ = some (.int .i64 p) ∧ w'.cell? ⟨w2.heap.size, 1, none⟩ = some (.slice a l c)) (first | exact ⟨K5.out.2.1, K5.out.2.2.1⟩ | exact ⟨K5.out.2.2.2.2.1, K5.out.2.2.2.2.2.1⟩ | exact ⟨(HXQ.out 0 (.inl rfl)).trans q0, (HXQ.out 1 (.inr rfl)).trans q1⟩ | go_keep) (first
    | (go_at_call 104
       refine (lostWord_any w0.heap.size 4000 p _ vs out _ (H3.out.1.new (New.drew _)) (by omega) (H3.out.2.1.new (New.drew _)) ⟨HF.out.1.mono HLT.out.2.2, fun i hi => (HF.out.2 i hi).mono HLT.out.2.2⟩ H3.out.2.2.1 hp).mono ?_
       rintro e w5 ⟨u5, xs, rfl, ho5, hf5, hl5, hr5, hc5⟩
       replace hl5 : xs.length ≤ 7 := hl5
       obtain ⟨a5, l5, c5, rfl, HL5, _, _⟩ := ho5.opened (by rw [List.length_map]; unfold Mid; omega)
       have KW := Lib.hid (And.intro ho5 (show xs.length ≤ 1001 by omega))
       clear ho5 hf5 hl5
       have hc : Chg (· = w0.heap.size) w3 w5 := Chg.trans (New.drew w3) hc5 (fun _ _ x => x.elim) (fun _ _ x => x)
       have hb5 := H3.out.2.2.2.2.1.chg hc (fun e => by have := HLT.out.2.1; omega)
       obtain ⟨d0, d1, d2, d3⟩ := hb5.cells
       have hq0 := hc.cell q0 (fun e => by have := HLT.out.1; simp at e; omega)
       have hq1 := hc.cell q1 (fun e => by have := HLT.out.1; simp at e; omega)
       obtain ⟨x0, x1, hx⟩ := hb5.put (.int .i64 p) (.slice a l c)
       have hne : ¬ w2.heap.size = w.heap.size := by have := HLT.out.1; have := HLT.out.2.1; omega
       have K5 := Lib.hid (And.intro hc (And.intro hq0 (And.intro hq1 (And.intro hx (And.intro (hx.cell hq0 hne) (And.intro (hx.cell hq1 hne) (And.intro x0 x1)))))))
       clear hr5 hc5 hc hq0 hq1 hb5 x0 x1 hx))
  go_wp2_with fail
  obtain ⟨y0, y1⟩ := K5.out.2.2.2.2.2.2
  have hw := (KW.out.1.chg K5.out.2.2.2.1 (own_ne_blk2 KW.out.1 (H3.out.2.2.2.2.1.chg K5.out.1 (fun e => by have := HLT.out.2.1; omega)) (by decide)))
  refine bodyPost_ret (v := .tuple #[.agg #[.int .i64 p, .slice a l c], .slice a5 l5 c5]) (by simp [results, go_sem, y0, y1]) rfl ?_
  exact ⟨a, l, c, vs, out, p, a5, l5, c5, xs, rfl, ((H3.out.2.1.chg K5.out.1 (fun b hb e => by have := HF.out.1 b hb; have := HLT.out.2.2; omega) (fun i hi b hb e => by have := HF.out.2 i hi b hb; have := HLT.out.2.2; omega)).chg K5.out.2.2.2.1 (own_ne_blk2 H3.out.2.1.outer H3.out.2.2.2.2.1 (by decide)) (fun i hi => own_ne_blk2 (H3.out.2.1.inner i hi) H3.out.2.2.2.2.1 (by decide))), H3.out.2.2.1, hp, hw, KW.out.2, (H3.out.2.2.2.1.then K5.out.1 (fun b hb => by have := HLT.out.2.1; omega)).then K5.out.2.2.2.1 (fun b hb => by omega)⟩
set_option maxHeartbeats 2000000 in
theorem drawMendWord_any (v : Value) (n : Nat) (w : World) (hb : RawB w v n) :
    Calls Try.prog 62 #[v] w fun e w' => DrawsKI w e w' := by
  obtain ⟨ao, cap, rfl, -⟩ := id hb
  have r0 := Blk2.alloc w (.int .i64 0) (.slice none 0 0) 25
  have n0 := New.alloc w (.cells #[.int .i64 0, .slice none 0 0] 25)
  have hb0 := hb.new n0
  obtain ⟨w0, hw0⟩ : ∃ w0, w0 = w.alloc (.cells #[.int .i64 0, .slice none 0 0] 25) := ⟨_, rfl⟩
  rw [← hw0] at r0 n0 hb0
  clear hb
  go_enter Try.func62, Try.ntmps62
  go_upto_region 1 with fail
  rw [← hw0]
  have H0 := Lib.hid (And.intro r0 (And.intro n0 hb0))
  clear r0 n0 hw0 hb0
  go_wp2_with fail
  refine (drawCountMends_any _ _ _ H0.out.2.2).mono ?_
  rintro e w1 ⟨a, l, c, vs, out, p, a5, l5, c5, xs, rfl, hi, hk, hp, hx, hxl, hn⟩
  have b1 := H0.out.1.new hn
  obtain ⟨q0, q1, q2, q3⟩ := b1.cells
  have H1 := Lib.hid (And.intro hi (And.intro hn (And.intro b1 hx)))
  clear hi hn b1 hx
  go_wp2_with fail
  obtain ⟨x0, x1, hx⟩ := H1.out.2.2.1.put (.int .i64 p) (.slice a l c)
  refine bodyPost_ret (v := .tuple #[.agg #[.int .i64 p, .slice a l c], .slice a5 l5 c5]) (by simp [results, go_sem, x0, x1]) rfl ?_
  exact ⟨a, l, c, vs, out, p, a5, l5, c5, xs, rfl, H1.out.1.code2 H1.out.2.2.1 hx, hk, hp, H1.out.2.2.2.code2 H1.out.2.2.1 hx, hxl, (H0.out.2.1.trans H1.out.2.1).then hx (fun i hi => Nat.le_of_eq hi.symm)⟩

end Go.Proofs.Ytgpmkbenjlhfhaa

/- (field).solve. -/
import Derived.Test.YtahgjfmdafhedaaLawK
import Derived.Test.YtahgjfmdafhedaaSolS
import Derived.Deep.DeepCutAuto
import Derived.Deep.Light
import Derived.IntWalk
import Derived.Test.YtahgjfmdafhedaaBase
namespace Go.Proofs.Ytahgjfmdafhedaa
open Go.RowKit Mat
set_option linter.unusedVariables false

/-- All old cells and marks read as before. -/
theorem oldCells {W w1 : World} (hb : New W w1) : (∀ b o, b < W.heap.size → w1.cell? ⟨b, o, none⟩ = W.cell? ⟨b, o, none⟩) ∧ (∀ b o, b < W.heap.size → w1.frozen? ⟨b, o, none⟩ = W.frozen? ⟨b, o, none⟩) :=
  ⟨fun b o h => hb.below.cell (p := ⟨b, o, none⟩) h, fun b o h => hb.below.frozen (p := ⟨b, o, none⟩) h⟩


theorem tyMade : TwoTy Try.prog 116 118 (.agg #[.slice none 0 0, .slice none 0 0]) := TwoTy.mk (n := 2) (b := 48) Try.underlying116 (by kernel_rfl) rfl (by decide) rfl

/-- A row that was copied and factors that were made, laid in a struct. -/
structure MadeIs (w0 w : World) (g : Nat) (vr vf : Value) (xs fs : List Int) : Prop where
  blk : Blk2 w g vr vf 118
  row : Own w 3 vr (xs.map (Value.int .i64))
  fac : Own w 3 vf (fs.map (Value.int .i64))
  old : w0.heap.size ≤ g ∧ From w0.heap.size vr ∧ From w0.heap.size vf
  apart : Apart vr vf ∧ (∀ h, vr.ownBlock = some h → h ≠ g) ∧ (∀ h, vf.ownBlock = some h → h ≠ g)
  new : New w0 w

theorem Blk2.putB {w : World} {g : Nat} {a b : Value} {t : TypeId} (h : Blk2 w g a b t) (x y : Value) : Blk2 ((w.setCell ⟨g, 0, none⟩ x).setCell ⟨g, 1, none⟩ y) g x y t := by
  have h' : w.heap[g]? = some (.cells #[a, b] t (0, 0)) := h
  simp [Blk2, World.setCell, Array.getElem?_modify, h']

theorem madePut (wz W : World) (ga gm : Nat) (vr : Value) (m : Nat) (xs : List Int) (hN : New wz W) (hA : Blk2 W ga (.slice none 0 0) (.slice none 0 0) 118) (hC : Own W 3 vr (xs.map (Value.int .i64)))
    (hM : Own W 3 (.slice (some ⟨gm, 0, none⟩) m m) ((List.replicate m 0).map (Value.int .i64))) (h1 : wz.heap.size ≤ ga) (h2 : From wz.heap.size vr) (h3 : wz.heap.size ≤ gm) (h4 : ∀ g, vr.ownBlock = some g → g ≠ gm) (h5 : ∀ g, vr.ownBlock = some g → g ≠ ga) (h6 : ga ≠ gm) :
    MadeIs wz ((W.setCell ⟨ga, 0, none⟩ vr).setCell ⟨ga, 1, none⟩ (.slice (some ⟨gm, 0, none⟩) m m)) ga vr (.slice (some ⟨gm, 0, none⟩) m m) xs (List.replicate m 0) ∧
      New wz ((W.setCell ⟨ga, 0, none⟩ vr).setCell ⟨ga, 1, none⟩ (.slice (some ⟨gm, 0, none⟩) m m)) ∧ True := by
  have hx : Chg (· = ga) W ((W.setCell ⟨ga, 0, none⟩ vr).setCell ⟨ga, 1, none⟩ (.slice (some ⟨gm, 0, none⟩) m m)) := Chg.trans (Chg.setCell _ _ _) (Chg.setCell _ _ _) (fun _ _ x => x) (fun _ _ x => x)
  have hn : New wz ((W.setCell ⟨ga, 0, none⟩ vr).setCell ⟨ga, 1, none⟩ (.slice (some ⟨gm, 0, none⟩) m m)) := hN.then hx (fun i hi => by rw [hi]; exact h1)
  exact ⟨⟨hA.putB _ _, hC.chg hx (fun g hg hs => h5 g hg hs), hM.chg hx (fun g hg hs => by simp [Value.ownBlock] at hg; omega), ⟨h1, h2, fun g hg => by simp [Value.ownBlock] at hg; omega⟩,
    ⟨fun g hg hs => by simp [Value.ownBlock] at hs; exact h4 g hg hs.symm, h5, fun g hg => by simp [Value.ownBlock] at hg; omega⟩, hn⟩, hn, trivial⟩

theorem OwnP.apart {w : World} {e e' : TypeId} {v u : Value} {xs : List (Value × Value)} {ys : List Value} (h : OwnP w e v xs) (h' : Own w e' u ys) (hne : e ≠ e') : Apart v u := by
  intro g hg hg'
  rcases h with ⟨rfl, _⟩ | ⟨g1, c1, cur1, rfl, hh1, _⟩
  · simp [Value.ownBlock] at hg
  · rcases h' with ⟨h2, _⟩ | ⟨g2, c2, cur2, h2, hh2, _⟩
    · rw [h2] at hg'; simp [Value.ownBlock] at hg'
    · rw [h2] at hg'
      simp [Value.ownBlock] at hg hg'
      subst hg; subst hg'
      rw [hh1] at hh2
      simp at hh2
      exact hne hh2.2
theorem KMem.up {w w' : World} {B : Nat} {vk : Value} {pr : List (Value × Value)} {K : List RF} (h : KMem w B vk pr K) {S : Nat → Prop} (hc : Chg S w w') (hS : ∀ g, S g → B ≤ g) : KMem w' w'.heap.size vk pr K := by
  have h1 := h.chg hc hS
  exact ⟨h1.outer, h1.len, h1.rows, fun g hg => h1.outer.lt hg, fun j hj g => ⟨fun hg => (h1.rows j hj).1.lt hg, fun hg => (h1.rows j hj).2.lt hg⟩⟩
/-- One more is kept. -/
theorem KMem.snoc {w w' : World} {B : Nat} {vk v' a b : Value} {pr : List (Value × Value)} {K : List RF} {x : RF} (h : KMem w B vk pr K) (hv : OwnP w' 118 v' (pr ++ [(a, b)])) {S : Nat → Prop} (hc : Chg S w w')
    (hS : ∀ g, S g → vk.ownBlock = some g ∨ B ≤ g) (ha : Own w' 3 a (x.1.map (Value.int .i64))) (hb : Own w' 3 b (x.2.map (Value.int .i64))) : KMem w' w'.heap.size v' (pr ++ [(a, b)]) (K ++ [x]) := by
  have hne : (118 : Nat) ≠ 3 := by decide
  have key : ∀ j, j < (K ++ [x]).length → Own w' 3 (gp (pr ++ [(a, b)]) j).1 ((gk (K ++ [x]) j).1.map (Value.int .i64)) ∧ Own w' 3 (gp (pr ++ [(a, b)]) j).2 ((gk (K ++ [x]) j).2.map (Value.int .i64)) := fun j hj => by
    by_cases e : j < K.length
    · rw [gp_snoc_lt (by rw [h.len]; exact e), gk_snoc_lt e]
      refine ⟨(h.rows j e).1.chg hc (fun g hg hs => ?_), (h.rows j e).2.chg hc (fun g hg hs => ?_)⟩
      · rcases hS g hs with c | c
        · exact h.outer.apart (h.rows j e).1 hne g c hg
        · have := (h.old.2 j e g).1 hg; omega
      · rcases hS g hs with c | c
        · exact h.outer.apart (h.rows j e).2 hne g c hg
        · have := (h.old.2 j e g).2 hg; omega
    · rw [List.length_append, List.length_singleton] at hj
      rw [gp_snoc_eq (by rw [h.len]; omega), gk_snoc_eq (by omega)]
      exact ⟨ha, hb⟩
  exact ⟨hv, by rw [List.length_append, List.length_append, h.len]; rfl, key, fun g hg => hv.lt hg, fun j hj g => ⟨fun hg => (key j hj).1.lt hg, fun hg => (key j hj).2.lt hg⟩⟩

theorem KMem.box {w w' : World} {b : Nat} {u vk : Value} {pr : List (Value × Value)} {K : List RF} (h : KMem w w.heap.size vk pr K) (hb : Blk1 w b u 116) (hc : Chg (· = b) w w') : KMem w' w'.heap.size vk pr K := by
  have h1 : (116 : Nat) ≠ 3 := by decide
  have h2 : (116 : Nat) ≠ 118 := by decide
  have hb' : w.heap[b]? = some (.cells #[u] 116 (0, 0)) := hb
  have key : ∀ (v : Value) (xs : List Value), Own w 3 v xs → ∀ g, v.ownBlock = some g → ¬ g = b := fun v xs ho g hg hs => by
    rcases ho with ⟨rfl, _⟩ | ⟨g1, c1, cur1, rfl, hh1, _⟩
    · simp [Value.ownBlock] at hg
    · simp [Value.ownBlock] at hg
      subst hg; subst hs
      rw [hh1] at hb'
      injection hb' with e1
      injection e1 with _ e2
      exact h1 e2.symm
  have keyP : ∀ g, vk.ownBlock = some g → ¬ g = b := fun g hg hs => by
    rcases h.outer with ⟨rfl, _⟩ | ⟨g1, c1, cur1, rfl, hh1, _⟩
    · simp [Value.ownBlock] at hg
    · simp [Value.ownBlock] at hg
      subst hg; subst hs
      rw [hh1] at hb'
      injection hb' with e1
      injection e1 with _ e2
      exact h2 e2.symm
  have ho := h.outer.chg hc (fun g hg hs => keyP g hg hs)
  have hr : ∀ j, j < K.length → Own w' 3 (gp pr j).1 ((gk K j).1.map (Value.int .i64)) ∧ Own w' 3 (gp pr j).2 ((gk K j).2.map (Value.int .i64)) := fun j hj =>
    ⟨(h.rows j hj).1.chg hc (fun g hg hs => key _ _ (h.rows j hj).1 g hg hs), (h.rows j hj).2.chg hc (fun g hg hs => key _ _ (h.rows j hj).2 g hg hs)⟩
  exact ⟨ho, h.len, hr, fun g hg => ho.lt hg, fun j hj g => ⟨fun hg => (hr j hj).1.lt hg, fun hg => (hr j hj).2.lt hg⟩⟩

/-- The first j factors have been turned round. -/
def negTo (q : Int) (f : List Int) (m j : Nat) : List Int := tab m (fun i => if i < j then (-(gi f i)) % q else gi f i)
theorem negTo_zero (q : Int) (f : List Int) : negTo q f f.length 0 = f :=
  ext_gi (tab_length _ _) (fun i hi => by unfold negTo at hi ⊢; rw [tab_length] at hi; rw [tab_get hi, if_neg (by omega)])
theorem negTo_all (q : Int) (f : List Int) : negTo q f f.length f.length = negF q f :=
  ext_gi (by unfold negTo; rw [tab_length]; simp [negF]) (fun i hi => by unfold negTo at hi ⊢; rw [tab_length] at hi; rw [tab_get hi, if_pos hi, negF_get q hi])

set_option maxRecDepth 100000 in
set_option maxHeartbeats 8000000 in
theorem implSolve_any (q : Nat) [NeZero q] (hq : Pr q) (n : Nat) (v vg : Value) (rows : List (List Int)) (goal : List Int) (w : World) (hr : IsR w v rows) (hg : IsI w vg goal) (hgr : GoodRows q n rows) (hgg : GoodRow q n goal) (hm6 : rows.length ≤ 6) (hn7 : n ≤ 7) :
    Calls Try.prog 92 #[.int .i64 q, v, vg] w fun e w' => GivesS q rows goal w e w' := by
  obtain ⟨ao, m, cap, rfl, HN, hm⟩ := hr.shape
  obtain ⟨ag, n', cg, rfl, HM, hmx⟩ := hg.shape
  have hnn : n = n' := by rw [HM.out, hgg.1]
  subst hnn
  have hqp := hq.pos
  have hm6' : m ≤ 6 := by rw [HN.out]; exact hm6
  have hrl6 : rows.length ≤ 6 := hm6
  have HR := Lib.hid hr
  have HG := Lib.hid hg
  have HGR := Lib.hid hgr
  have HGG := Lib.hid hgg
  have HQ := Lib.hid hq
  clear hr hg hgr hgg hq hm6
  have hnA : New w (w.alloc (.cells #[.int .i64 q] 55)) := New.alloc _ _
  have hpA := Blk1.alloc w (.int .i64 q) 55
  go_enter Try.func92, Try.ntmps92
  go_wp2_with fail
  obtain ⟨wA, hwA⟩ : ∃ wA : World, wA = ((w.alloc (.cells #[.int .i64 q] 55)).alloc (.cells #[] 118)).alloc (.cells #[.slice (some ⟨w.heap.size + 1, 0, none⟩) 0 0] 116) := ⟨_, rfl⟩
  rw [← hwA]
  have hszA : wA.heap.size = w.heap.size + 1 + 1 + 1 := by rw [hwA]; simp
  have hnwA : New w wA := by rw [hwA]; exact (hnA.trans (New.alloc _ _)).trans (New.alloc _ _)
  have hbpA : Blk1 wA w.heap.size (.int .i64 q) 55 := by rw [hwA]; exact (hpA.new (New.alloc _ _)).new (New.alloc _ _)
  have hbkA : Blk1 wA (w.heap.size + 1 + 1) (.slice (some ⟨w.heap.size + 1, 0, none⟩) 0 0) 116 := by
    rw [hwA]
    have := Blk1.alloc ((w.alloc (.cells #[.int .i64 q] 55)).alloc (.cells #[] 118)) (.slice (some ⟨w.heap.size + 1, 0, none⟩) 0 0) 116
    rw [World.size_alloc, World.size_alloc] at this
    exact this
  have hkA : OwnP wA 118 (.slice (some ⟨w.heap.size + 1, 0, none⟩) 0 0) [] := by
    rw [hwA]
    have := OwnP.empty (w.alloc (.cells #[.int .i64 q] 55)) 118
    rw [World.size_alloc] at this
    exact this.new (New.alloc _ _)
  have HA := Lib.hid (And.intro hnwA (And.intro hbpA (And.intro hbkA hkA)))
  have HSZA := Lib.hid hszA
  clear hwA hszA hnwA hbpA hbkA hkA hnA hpA
  have hmk : ∃ cs : Array Value, cs.size = m ∧ cs.toList.take m = List.replicate m (.int .i64 0) ∧ ∀ W : World, (Instr.makeSlice 23 (.int .i64 (m : Int)) (.int .i64 (m : Int))).run Try.prog W = .ok (.slice (some ⟨W.heap.size, 0, none⟩) m m) (W.alloc (.cells cs 3)) := by
    obtain ⟨i, ht, hi, hz, hs, hby, hzc⟩ := tyInt
    have hbig : i.bytes * m ≤ 281474976710656 := by have := Nat.mul_le_mul hby (show m ≤ 6 from hm6'); omega
    refine ⟨madeCells (Value.int .i64 0).cells (m * i.size), ?_, ?_, fun W => ?_⟩
    · simp only [madeCells, Array.size_map, Array.size_range, hs]; omega
    · rw [hs, Nat.mul_one, made1 _ hzc, List.take_replicate, Nat.min_eq_left (Nat.le_refl _)]
    · have := run_make (P := Try.prog) W 23 3 i _ ht hi hz .i64 .i64 (m : Int) (m : Int) (by omega) (by omega) (Int.ofNat_le.2 hbig) (by omega)
      rw [Int.toNat_natCast] at this
      exact this
  obtain ⟨cs, hcs1, hcs2, hmk⟩ := hmk
  have HCS := Lib.hid (And.intro hcs1 hcs2)
  have HMK := Lib.hid hmk
  have hmko : ∀ W : World, Own (W.alloc (.cells cs 3)) 3 (.slice (some ⟨W.heap.size, 0, none⟩) m m) ((List.replicate m 0).map (Value.int .i64)) := fun W =>
    .inr ⟨W.heap.size, m, cs, by simp, heap_alloc_new W _, by simp, by unfold maxLen; omega, by omega, by rw [List.map_replicate, List.length_replicate]; exact hcs2⟩
  have HMKO := Lib.hid hmko
  clear hcs1 hcs2 hmk hmko
  go_loopg [22] m (fun gk t wr => ∃ (k : Nat) (K : List RF) (vk : Value) (pr : List (Value × Value)), t = .int .i64 k ∧ k ≤ m ∧ gk = m - k ∧
    Hid (KInv q n rows k K ∧ KMem wr wr.heap.size vk pr K ∧ Blk1 wr (w.heap.size + 1 + 1) vk 116 ∧ Blk1 wr w.heap.size (.int .i64 q) 55 ∧ New w wr ∧ ∀ g, vk.ownBlock = some g → w.heap.size < g ∧ g ≠ w.heap.size + 1 + 1))
  case atStart =>
    exact ⟨0, [], _, [], rfl, Nat.zero_le _, rfl, KInv.empty _ _, ⟨HA.out.2.2.2, rfl, fun j hj => by simp at hj, (fun g hg => HA.out.2.2.2.lt hg), fun j hj => by simp at hj⟩, HA.out.2.2.1, HA.out.2.1, HA.out.1, fun g hg => by simp [Value.ownBlock] at hg; omega⟩
  case round =>
    obtain ⟨k, K, vk, pr, rfl, hk, hgk, HL⟩ := hrel
    obtain ⟨wz, hwz⟩ : ∃ wz : World, wz = wr := ⟨_, rfl⟩
    rw [← hwz] at HL
    rw [← hwz]
    clear hwz
    by_cases hkm : k < m
    · have hkr : k < rows.length := by rw [← HN.out]; exact hkm
      obtain ⟨b, o, u, rfl, ck, hu⟩ := (HR.out.new HL.out.2.2.2.2.1).at hkm
      obtain ⟨au, nu, cu, rfl, HNU, hnu⟩ := hu.shape
      have hnu' : n = nu := by rw [HNU.out, (HGR.out k hkr).1]
      subst hnu'
      have HU := Lib.hid hu
      clear hu
      go_upto_region 6 with fail
      go_cut [12] (fun s12 wx => ∃ (g : Nat) (vr vf : Value), s12 = .pointer (some ⟨g, 0, none⟩) ∧ Hid (MadeIs wz wx g vr vf (gr rows k) (List.replicate m 0)))
      case first =>
        have hmidx : Mid ((gr rows k).map (Value.int .i64)).length := by rw [List.length_map, (HGR.out k hkr).1]; unfold Mid; omega
        refine wp_region_held_drew (S := fun w' => New wz w') (by kernel_rfl) (New.drew _) (fun hHeld => ?_)
        obtain ⟨wd, hwd⟩ : ∃ wd : World, wd = wz.drew := ⟨_, rfl⟩
        rw [← hwd] at hHeld ⊢
        clear hwd
        refine held_take 0 (some 27) rfl rfl (by kernel_rfl) (by kernel_rfl) (by kernel_rfl) (fun _ _ _ h => h) rfl hHeld (v := .slice au n cu) (fun w' hS => by skip; go_simp; try with_reducible rfl) ?_
        try simp only [Act.put, List.setIfInBounds_toArray, List.set_cons_zero, List.set_cons_succ]
        refine held_take 2 (some 29) rfl rfl (by kernel_rfl) (by kernel_rfl) (by kernel_rfl) (fun _ _ _ h => h) rfl hHeld (v := ?_) (fun w' hS => by skip; go_simp; try with_reducible rfl) ?_
        try simp only [Act.put, List.setIfInBounds_toArray, List.set_cons_zero, List.set_cons_succ]
        refine held_take 3 (some 30) rfl rfl (by kernel_rfl) (by kernel_rfl) (by kernel_rfl) (fun _ _ _ h => h) rfl hHeld (v := .int .i64 m) (fun w' hS => by skip; go_simp; try with_reducible rfl) ?_
        try simp only [Act.put, List.setIfInBounds_toArray, List.set_cons_zero, List.set_cons_succ]
        refine wpAnyH_ready (rs := [1, 4, 6]) (by kernel_rfl) (by simp) ?_
        refine ready_cons 1 rfl rfl (fun K hK => ?_) ?_
        · skip
          go_simp
          refine (clone_any _ (gr rows k) _ (HU.out.new hHeld)).mono ?_
          rintro e wn1 ⟨u1, rfl, ho1, hf1, hn1⟩
          obtain ⟨a1, l1, c1, rfl, _, _, _⟩ := ho1.opened hmidx
          refine hK.out _ _ (hHeld.trans hn1) (fun hHeld1 => ?_)
          have HBc := Lib.hid (fun g (hg : (Value.slice a1 l1 c1).ownBlock = some g) => And.intro (hf1 g hg) (ho1.lt hg))
          have hsz1 := hn1.size
          have Hc := Lib.hid ho1
          clear hK K ho1 hn1 hf1
          try simp only [Act.put, List.setIfInBounds_toArray, List.set_cons_zero, List.set_cons_succ]
          refine wpAnyH_ready (rs := [4, 6]) (by kernel_rfl) (by simp) ?_
          refine ready_cons 4 rfl rfl (fun K hK => ?_) ?_
          · skip
            have hmk := HMK.out
            go_simp
            clear hmk
            have hn1 : New wn1 (wn1.alloc (.cells cs 3)) := New.alloc _ _
            have ho1 : Own (wn1.alloc (.cells cs 3)) 3 (.slice (some ⟨wn1.heap.size, 0, none⟩) m m) ((List.replicate m 0).map (Value.int .i64)) := HMKO.out wn1
            have hsm : wn1.heap.size < (wn1.alloc (.cells cs 3)).heap.size := by rw [World.size_alloc]; omega
            obtain ⟨wn2, hW2⟩ : ∃ w' : World, w' = wn1.alloc (.cells cs 3) := ⟨_, rfl⟩
            rw [← hW2] at hn1 ho1 hsm ⊢
            obtain ⟨gm, hgm⟩ : ∃ g, g = wn1.heap.size := ⟨_, rfl⟩
            rw [← hgm] at ho1 ⊢
            refine hK.out _ _ (hHeld1.trans hn1) (fun hHeld2 => ?_)
            have HBm : Hid (wn1.heap.size ≤ gm ∧ gm < wn2.heap.size) := by show _ ∧ _; omega
            clear hW2 hgm hsm
            have hsz2 := hn1.size
            replace Hc := Lib.hid (Hc.out.new hn1)
            have Hm := Lib.hid ho1
            clear hK K ho1 hn1
            try simp only [Act.put, List.setIfInBounds_toArray, List.set_cons_zero, List.set_cons_succ]
            refine held_take 5 (some 32) rfl rfl (by kernel_rfl) (by kernel_rfl) (by kernel_rfl) (fun _ _ _ h => h) rfl hHeld2 (v := .agg #[.slice a1 l1 c1, .slice (some ⟨gm, 0, none⟩) m m]) (fun w' hS => by skip; go_simp; try with_reducible rfl) ?_
            try simp only [Act.put, List.setIfInBounds_toArray, List.set_cons_zero, List.set_cons_succ]
            refine wpAnyH_ready (rs := [6]) (by kernel_rfl) (by simp) ?_
            refine ready_cons 6 rfl rfl (fun K hK => ?_) ?_
            · skip
              go_simp
              have hn1 : New wn2 (wn2.alloc (.cells #[.slice none 0 0, .slice none 0 0] 118)) := New.alloc _ _
              have ho1 := Blk2.alloc wn2 (.slice none 0 0) (.slice none 0 0) 118
              have hsm : wn2.heap.size < (wn2.alloc (.cells #[.slice none 0 0, .slice none 0 0] 118)).heap.size := by rw [World.size_alloc]; omega
              obtain ⟨wn3, hW2⟩ : ∃ w' : World, w' = wn2.alloc (.cells #[.slice none 0 0, .slice none 0 0] 118) := ⟨_, rfl⟩
              rw [← hW2] at hn1 ho1 hsm ⊢
              obtain ⟨ga, hga⟩ : ∃ g, g = wn2.heap.size := ⟨_, rfl⟩
              rw [← hga] at ho1 ⊢
              refine hK.out _ _ (hHeld2.trans hn1) (fun hHeld3 => ?_)
              have HBa : Hid (wn2.heap.size ≤ ga ∧ ga < wn3.heap.size) := by show _ ∧ _; omega
              clear hW2 hga hsm
              have hsz3 := hn1.size
              replace Hc := Lib.hid (Hc.out.new hn1)
              replace Hm := Lib.hid (Hm.out.new hn1)
              have Ha := Lib.hid ho1
              clear hK K ho1 hn1
              try simp only [Act.put, List.setIfInBounds_toArray, List.set_cons_zero, List.set_cons_succ]
              refine held_only 7 (by kernel_rfl) rfl rfl (fun K hK => ?_)
              obtain ⟨e0, e1, e2, e3⟩ := Ha.out.cells
              go_simp
              obtain ⟨x0, x1, x2⟩ := madePut wz wn3 ga gm (.slice a1 l1 c1) m (gr rows k) hHeld3 Ha.out Hc.out Hm.out (by have := HBa.out; have := hHeld.size; omega) (fun g hg => by have := HBc.out g hg; have := hHeld.size; omega) (by have := HBm.out; have := hHeld.size; omega) (fun g hg => by have := HBc.out g hg; have := HBm.out; omega) (fun g hg => by have := HBc.out g hg; have := HBa.out; omega) (by have := HBa.out; have := HBm.out; omega)
              refine hK.out _ _ x1 (fun hHeldE => ?_)
              clear hK K e0 e1 e2 e3
              refine wpAnyH_done (by kernel_rfl) ?_ _
              go_wp2_with fail
              go_meet
              exact ⟨ga, _, _, rfl, x0⟩
            exact AllReadyH.nil
          refine ready_cons 6 rfl rfl (fun K hK => ?_) ?_
          · skip
            go_simp
            have hn1 : New wn1 (wn1.alloc (.cells #[.slice none 0 0, .slice none 0 0] 118)) := New.alloc _ _
            have ho1 := Blk2.alloc wn1 (.slice none 0 0) (.slice none 0 0) 118
            have hsm : wn1.heap.size < (wn1.alloc (.cells #[.slice none 0 0, .slice none 0 0] 118)).heap.size := by rw [World.size_alloc]; omega
            obtain ⟨wn4, hW2⟩ : ∃ w' : World, w' = wn1.alloc (.cells #[.slice none 0 0, .slice none 0 0] 118) := ⟨_, rfl⟩
            rw [← hW2] at hn1 ho1 hsm ⊢
            obtain ⟨ga, hga⟩ : ∃ g, g = wn1.heap.size := ⟨_, rfl⟩
            rw [← hga] at ho1 ⊢
            refine hK.out _ _ (hHeld1.trans hn1) (fun hHeld4 => ?_)
            have HBa : Hid (wn1.heap.size ≤ ga ∧ ga < wn4.heap.size) := by show _ ∧ _; omega
            clear hW2 hga hsm
            have hsz4 := hn1.size
            replace Hc := Lib.hid (Hc.out.new hn1)
            have Ha := Lib.hid ho1
            clear hK K ho1 hn1
            try simp only [Act.put, List.setIfInBounds_toArray, List.set_cons_zero, List.set_cons_succ]
            refine wpAnyH_ready (rs := [4]) (by kernel_rfl) (by simp) ?_
            refine ready_cons 4 rfl rfl (fun K hK => ?_) ?_
            · skip
              have hmk := HMK.out
              go_simp
              clear hmk
              have hn1 : New wn4 (wn4.alloc (.cells cs 3)) := New.alloc _ _
              have ho1 : Own (wn4.alloc (.cells cs 3)) 3 (.slice (some ⟨wn4.heap.size, 0, none⟩) m m) ((List.replicate m 0).map (Value.int .i64)) := HMKO.out wn4
              have hsm : wn4.heap.size < (wn4.alloc (.cells cs 3)).heap.size := by rw [World.size_alloc]; omega
              obtain ⟨wn5, hW2⟩ : ∃ w' : World, w' = wn4.alloc (.cells cs 3) := ⟨_, rfl⟩
              rw [← hW2] at hn1 ho1 hsm ⊢
              obtain ⟨gm, hgm⟩ : ∃ g, g = wn4.heap.size := ⟨_, rfl⟩
              rw [← hgm] at ho1 ⊢
              refine hK.out _ _ (hHeld4.trans hn1) (fun hHeld5 => ?_)
              have HBm : Hid (wn4.heap.size ≤ gm ∧ gm < wn5.heap.size) := by show _ ∧ _; omega
              clear hW2 hgm hsm
              have hsz5 := hn1.size
              replace Hc := Lib.hid (Hc.out.new hn1)
              replace Ha := Lib.hid (Ha.out.new hn1)
              have Hm := Lib.hid ho1
              clear hK K ho1 hn1
              try simp only [Act.put, List.setIfInBounds_toArray, List.set_cons_zero, List.set_cons_succ]
              refine held_take 5 (some 32) rfl rfl (by kernel_rfl) (by kernel_rfl) (by kernel_rfl) (fun _ _ _ h => h) rfl hHeld5 (v := .agg #[.slice a1 l1 c1, .slice (some ⟨gm, 0, none⟩) m m]) (fun w' hS => by skip; go_simp; try with_reducible rfl) ?_
              try simp only [Act.put, List.setIfInBounds_toArray, List.set_cons_zero, List.set_cons_succ]
              refine held_only 7 (by kernel_rfl) rfl rfl (fun K hK => ?_)
              obtain ⟨e0, e1, e2, e3⟩ := Ha.out.cells
              go_simp
              obtain ⟨x0, x1, x2⟩ := madePut wz wn5 ga gm (.slice a1 l1 c1) m (gr rows k) hHeld5 Ha.out Hc.out Hm.out (by have := HBa.out; have := hHeld.size; omega) (fun g hg => by have := HBc.out g hg; have := hHeld.size; omega) (by have := HBm.out; have := hHeld.size; omega) (fun g hg => by have := HBc.out g hg; have := HBm.out; omega) (fun g hg => by have := HBc.out g hg; have := HBa.out; omega) (by have := HBa.out; have := HBm.out; omega)
              refine hK.out _ _ x1 (fun hHeldE => ?_)
              clear hK K e0 e1 e2 e3
              refine wpAnyH_done (by kernel_rfl) ?_ _
              go_wp2_with fail
              go_meet
              exact ⟨ga, _, _, rfl, x0⟩
            exact AllReadyH.nil
          exact AllReadyH.nil
        refine ready_cons 4 rfl rfl (fun K hK => ?_) ?_
        · skip
          have hmk := HMK.out
          go_simp
          clear hmk
          have hn1 : New wd (wd.alloc (.cells cs 3)) := New.alloc _ _
          have ho1 : Own (wd.alloc (.cells cs 3)) 3 (.slice (some ⟨wd.heap.size, 0, none⟩) m m) ((List.replicate m 0).map (Value.int .i64)) := HMKO.out wd
          have hsm : wd.heap.size < (wd.alloc (.cells cs 3)).heap.size := by rw [World.size_alloc]; omega
          obtain ⟨wn6, hW2⟩ : ∃ w' : World, w' = wd.alloc (.cells cs 3) := ⟨_, rfl⟩
          rw [← hW2] at hn1 ho1 hsm ⊢
          obtain ⟨gm, hgm⟩ : ∃ g, g = wd.heap.size := ⟨_, rfl⟩
          rw [← hgm] at ho1 ⊢
          refine hK.out _ _ (hHeld.trans hn1) (fun hHeld6 => ?_)
          have HBm : Hid (wd.heap.size ≤ gm ∧ gm < wn6.heap.size) := by show _ ∧ _; omega
          clear hW2 hgm hsm
          have hsz6 := hn1.size
          have Hm := Lib.hid ho1
          clear hK K ho1 hn1
          try simp only [Act.put, List.setIfInBounds_toArray, List.set_cons_zero, List.set_cons_succ]
          refine wpAnyH_ready (rs := [1, 6]) (by kernel_rfl) (by simp) ?_
          refine ready_cons 1 rfl rfl (fun K hK => ?_) ?_
          · skip
            go_simp
            refine (clone_any _ (gr rows k) _ (HU.out.new hHeld6)).mono ?_
            rintro e wn7 ⟨u1, rfl, ho1, hf1, hn1⟩
            obtain ⟨a1, l1, c1, rfl, _, _, _⟩ := ho1.opened hmidx
            refine hK.out _ _ (hHeld6.trans hn1) (fun hHeld7 => ?_)
            have HBc := Lib.hid (fun g (hg : (Value.slice a1 l1 c1).ownBlock = some g) => And.intro (hf1 g hg) (ho1.lt hg))
            have hsz7 := hn1.size
            replace Hm := Lib.hid (Hm.out.new hn1)
            have Hc := Lib.hid ho1
            clear hK K ho1 hn1 hf1
            try simp only [Act.put, List.setIfInBounds_toArray, List.set_cons_zero, List.set_cons_succ]
            refine held_take 5 (some 32) rfl rfl (by kernel_rfl) (by kernel_rfl) (by kernel_rfl) (fun _ _ _ h => h) rfl hHeld7 (v := .agg #[.slice a1 l1 c1, .slice (some ⟨gm, 0, none⟩) m m]) (fun w' hS => by skip; go_simp; try with_reducible rfl) ?_
            try simp only [Act.put, List.setIfInBounds_toArray, List.set_cons_zero, List.set_cons_succ]
            refine wpAnyH_ready (rs := [6]) (by kernel_rfl) (by simp) ?_
            refine ready_cons 6 rfl rfl (fun K hK => ?_) ?_
            · skip
              go_simp
              have hn1 : New wn7 (wn7.alloc (.cells #[.slice none 0 0, .slice none 0 0] 118)) := New.alloc _ _
              have ho1 := Blk2.alloc wn7 (.slice none 0 0) (.slice none 0 0) 118
              have hsm : wn7.heap.size < (wn7.alloc (.cells #[.slice none 0 0, .slice none 0 0] 118)).heap.size := by rw [World.size_alloc]; omega
              obtain ⟨wn8, hW2⟩ : ∃ w' : World, w' = wn7.alloc (.cells #[.slice none 0 0, .slice none 0 0] 118) := ⟨_, rfl⟩
              rw [← hW2] at hn1 ho1 hsm ⊢
              obtain ⟨ga, hga⟩ : ∃ g, g = wn7.heap.size := ⟨_, rfl⟩
              rw [← hga] at ho1 ⊢
              refine hK.out _ _ (hHeld7.trans hn1) (fun hHeld8 => ?_)
              have HBa : Hid (wn7.heap.size ≤ ga ∧ ga < wn8.heap.size) := by show _ ∧ _; omega
              clear hW2 hga hsm
              have hsz8 := hn1.size
              replace Hm := Lib.hid (Hm.out.new hn1)
              replace Hc := Lib.hid (Hc.out.new hn1)
              have Ha := Lib.hid ho1
              clear hK K ho1 hn1
              try simp only [Act.put, List.setIfInBounds_toArray, List.set_cons_zero, List.set_cons_succ]
              refine held_only 7 (by kernel_rfl) rfl rfl (fun K hK => ?_)
              obtain ⟨e0, e1, e2, e3⟩ := Ha.out.cells
              go_simp
              obtain ⟨x0, x1, x2⟩ := madePut wz wn8 ga gm (.slice a1 l1 c1) m (gr rows k) hHeld8 Ha.out Hc.out Hm.out (by have := HBa.out; have := hHeld.size; omega) (fun g hg => by have := HBc.out g hg; have := hHeld.size; omega) (by have := HBm.out; have := hHeld.size; omega) (fun g hg => by have := HBc.out g hg; have := HBm.out; omega) (fun g hg => by have := HBc.out g hg; have := HBa.out; omega) (by have := HBa.out; have := HBm.out; omega)
              refine hK.out _ _ x1 (fun hHeldE => ?_)
              clear hK K e0 e1 e2 e3
              refine wpAnyH_done (by kernel_rfl) ?_ _
              go_wp2_with fail
              go_meet
              exact ⟨ga, _, _, rfl, x0⟩
            exact AllReadyH.nil
          refine ready_cons 6 rfl rfl (fun K hK => ?_) ?_
          · skip
            go_simp
            have hn1 : New wn6 (wn6.alloc (.cells #[.slice none 0 0, .slice none 0 0] 118)) := New.alloc _ _
            have ho1 := Blk2.alloc wn6 (.slice none 0 0) (.slice none 0 0) 118
            have hsm : wn6.heap.size < (wn6.alloc (.cells #[.slice none 0 0, .slice none 0 0] 118)).heap.size := by rw [World.size_alloc]; omega
            obtain ⟨wn9, hW2⟩ : ∃ w' : World, w' = wn6.alloc (.cells #[.slice none 0 0, .slice none 0 0] 118) := ⟨_, rfl⟩
            rw [← hW2] at hn1 ho1 hsm ⊢
            obtain ⟨ga, hga⟩ : ∃ g, g = wn6.heap.size := ⟨_, rfl⟩
            rw [← hga] at ho1 ⊢
            refine hK.out _ _ (hHeld6.trans hn1) (fun hHeld9 => ?_)
            have HBa : Hid (wn6.heap.size ≤ ga ∧ ga < wn9.heap.size) := by show _ ∧ _; omega
            clear hW2 hga hsm
            have hsz9 := hn1.size
            replace Hm := Lib.hid (Hm.out.new hn1)
            have Ha := Lib.hid ho1
            clear hK K ho1 hn1
            try simp only [Act.put, List.setIfInBounds_toArray, List.set_cons_zero, List.set_cons_succ]
            refine wpAnyH_ready (rs := [1]) (by kernel_rfl) (by simp) ?_
            refine ready_cons 1 rfl rfl (fun K hK => ?_) ?_
            · skip
              go_simp
              refine (clone_any _ (gr rows k) _ (HU.out.new hHeld9)).mono ?_
              rintro e wn10 ⟨u1, rfl, ho1, hf1, hn1⟩
              obtain ⟨a1, l1, c1, rfl, _, _, _⟩ := ho1.opened hmidx
              refine hK.out _ _ (hHeld9.trans hn1) (fun hHeld10 => ?_)
              have HBc := Lib.hid (fun g (hg : (Value.slice a1 l1 c1).ownBlock = some g) => And.intro (hf1 g hg) (ho1.lt hg))
              have hsz10 := hn1.size
              replace Hm := Lib.hid (Hm.out.new hn1)
              replace Ha := Lib.hid (Ha.out.new hn1)
              have Hc := Lib.hid ho1
              clear hK K ho1 hn1 hf1
              try simp only [Act.put, List.setIfInBounds_toArray, List.set_cons_zero, List.set_cons_succ]
              refine held_take 5 (some 32) rfl rfl (by kernel_rfl) (by kernel_rfl) (by kernel_rfl) (fun _ _ _ h => h) rfl hHeld10 (v := .agg #[.slice a1 l1 c1, .slice (some ⟨gm, 0, none⟩) m m]) (fun w' hS => by skip; go_simp; try with_reducible rfl) ?_
              try simp only [Act.put, List.setIfInBounds_toArray, List.set_cons_zero, List.set_cons_succ]
              refine held_only 7 (by kernel_rfl) rfl rfl (fun K hK => ?_)
              obtain ⟨e0, e1, e2, e3⟩ := Ha.out.cells
              go_simp
              obtain ⟨x0, x1, x2⟩ := madePut wz wn10 ga gm (.slice a1 l1 c1) m (gr rows k) hHeld10 Ha.out Hc.out Hm.out (by have := HBa.out; have := hHeld.size; omega) (fun g hg => by have := HBc.out g hg; have := hHeld.size; omega) (by have := HBm.out; have := hHeld.size; omega) (fun g hg => by have := HBc.out g hg; have := HBm.out; omega) (fun g hg => by have := HBc.out g hg; have := HBa.out; omega) (by have := HBa.out; have := HBm.out; omega)
              refine hK.out _ _ x1 (fun hHeldE => ?_)
              clear hK K e0 e1 e2 e3
              refine wpAnyH_done (by kernel_rfl) ?_ _
              go_wp2_with fail
              go_meet
              exact ⟨ga, _, _, rfl, x0⟩
            exact AllReadyH.nil
          exact AllReadyH.nil
        refine ready_cons 6 rfl rfl (fun K hK => ?_) ?_
        · skip
          go_simp
          have hn1 : New wd (wd.alloc (.cells #[.slice none 0 0, .slice none 0 0] 118)) := New.alloc _ _
          have ho1 := Blk2.alloc wd (.slice none 0 0) (.slice none 0 0) 118
          have hsm : wd.heap.size < (wd.alloc (.cells #[.slice none 0 0, .slice none 0 0] 118)).heap.size := by rw [World.size_alloc]; omega
          obtain ⟨wn11, hW2⟩ : ∃ w' : World, w' = wd.alloc (.cells #[.slice none 0 0, .slice none 0 0] 118) := ⟨_, rfl⟩
          rw [← hW2] at hn1 ho1 hsm ⊢
          obtain ⟨ga, hga⟩ : ∃ g, g = wd.heap.size := ⟨_, rfl⟩
          rw [← hga] at ho1 ⊢
          refine hK.out _ _ (hHeld.trans hn1) (fun hHeld11 => ?_)
          have HBa : Hid (wd.heap.size ≤ ga ∧ ga < wn11.heap.size) := by show _ ∧ _; omega
          clear hW2 hga hsm
          have hsz11 := hn1.size
          have Ha := Lib.hid ho1
          clear hK K ho1 hn1
          try simp only [Act.put, List.setIfInBounds_toArray, List.set_cons_zero, List.set_cons_succ]
          refine wpAnyH_ready (rs := [1, 4]) (by kernel_rfl) (by simp) ?_
          refine ready_cons 1 rfl rfl (fun K hK => ?_) ?_
          · skip
            go_simp
            refine (clone_any _ (gr rows k) _ (HU.out.new hHeld11)).mono ?_
            rintro e wn12 ⟨u1, rfl, ho1, hf1, hn1⟩
            obtain ⟨a1, l1, c1, rfl, _, _, _⟩ := ho1.opened hmidx
            refine hK.out _ _ (hHeld11.trans hn1) (fun hHeld12 => ?_)
            have HBc := Lib.hid (fun g (hg : (Value.slice a1 l1 c1).ownBlock = some g) => And.intro (hf1 g hg) (ho1.lt hg))
            have hsz12 := hn1.size
            replace Ha := Lib.hid (Ha.out.new hn1)
            have Hc := Lib.hid ho1
            clear hK K ho1 hn1 hf1
            try simp only [Act.put, List.setIfInBounds_toArray, List.set_cons_zero, List.set_cons_succ]
            refine wpAnyH_ready (rs := [4]) (by kernel_rfl) (by simp) ?_
            refine ready_cons 4 rfl rfl (fun K hK => ?_) ?_
            · skip
              have hmk := HMK.out
              go_simp
              clear hmk
              have hn1 : New wn12 (wn12.alloc (.cells cs 3)) := New.alloc _ _
              have ho1 : Own (wn12.alloc (.cells cs 3)) 3 (.slice (some ⟨wn12.heap.size, 0, none⟩) m m) ((List.replicate m 0).map (Value.int .i64)) := HMKO.out wn12
              have hsm : wn12.heap.size < (wn12.alloc (.cells cs 3)).heap.size := by rw [World.size_alloc]; omega
              obtain ⟨wn13, hW2⟩ : ∃ w' : World, w' = wn12.alloc (.cells cs 3) := ⟨_, rfl⟩
              rw [← hW2] at hn1 ho1 hsm ⊢
              obtain ⟨gm, hgm⟩ : ∃ g, g = wn12.heap.size := ⟨_, rfl⟩
              rw [← hgm] at ho1 ⊢
              refine hK.out _ _ (hHeld12.trans hn1) (fun hHeld13 => ?_)
              have HBm : Hid (wn12.heap.size ≤ gm ∧ gm < wn13.heap.size) := by show _ ∧ _; omega
              clear hW2 hgm hsm
              have hsz13 := hn1.size
              replace Ha := Lib.hid (Ha.out.new hn1)
              replace Hc := Lib.hid (Hc.out.new hn1)
              have Hm := Lib.hid ho1
              clear hK K ho1 hn1
              try simp only [Act.put, List.setIfInBounds_toArray, List.set_cons_zero, List.set_cons_succ]
              refine held_take 5 (some 32) rfl rfl (by kernel_rfl) (by kernel_rfl) (by kernel_rfl) (fun _ _ _ h => h) rfl hHeld13 (v := .agg #[.slice a1 l1 c1, .slice (some ⟨gm, 0, none⟩) m m]) (fun w' hS => by skip; go_simp; try with_reducible rfl) ?_
              try simp only [Act.put, List.setIfInBounds_toArray, List.set_cons_zero, List.set_cons_succ]
              refine held_only 7 (by kernel_rfl) rfl rfl (fun K hK => ?_)
              obtain ⟨e0, e1, e2, e3⟩ := Ha.out.cells
              go_simp
              obtain ⟨x0, x1, x2⟩ := madePut wz wn13 ga gm (.slice a1 l1 c1) m (gr rows k) hHeld13 Ha.out Hc.out Hm.out (by have := HBa.out; have := hHeld.size; omega) (fun g hg => by have := HBc.out g hg; have := hHeld.size; omega) (by have := HBm.out; have := hHeld.size; omega) (fun g hg => by have := HBc.out g hg; have := HBm.out; omega) (fun g hg => by have := HBc.out g hg; have := HBa.out; omega) (by have := HBa.out; have := HBm.out; omega)
              refine hK.out _ _ x1 (fun hHeldE => ?_)
              clear hK K e0 e1 e2 e3
              refine wpAnyH_done (by kernel_rfl) ?_ _
              go_wp2_with fail
              go_meet
              exact ⟨ga, _, _, rfl, x0⟩
            exact AllReadyH.nil
          refine ready_cons 4 rfl rfl (fun K hK => ?_) ?_
          · skip
            have hmk := HMK.out
            go_simp
            clear hmk
            have hn1 : New wn11 (wn11.alloc (.cells cs 3)) := New.alloc _ _
            have ho1 : Own (wn11.alloc (.cells cs 3)) 3 (.slice (some ⟨wn11.heap.size, 0, none⟩) m m) ((List.replicate m 0).map (Value.int .i64)) := HMKO.out wn11
            have hsm : wn11.heap.size < (wn11.alloc (.cells cs 3)).heap.size := by rw [World.size_alloc]; omega
            obtain ⟨wn14, hW2⟩ : ∃ w' : World, w' = wn11.alloc (.cells cs 3) := ⟨_, rfl⟩
            rw [← hW2] at hn1 ho1 hsm ⊢
            obtain ⟨gm, hgm⟩ : ∃ g, g = wn11.heap.size := ⟨_, rfl⟩
            rw [← hgm] at ho1 ⊢
            refine hK.out _ _ (hHeld11.trans hn1) (fun hHeld14 => ?_)
            have HBm : Hid (wn11.heap.size ≤ gm ∧ gm < wn14.heap.size) := by show _ ∧ _; omega
            clear hW2 hgm hsm
            have hsz14 := hn1.size
            replace Ha := Lib.hid (Ha.out.new hn1)
            have Hm := Lib.hid ho1
            clear hK K ho1 hn1
            try simp only [Act.put, List.setIfInBounds_toArray, List.set_cons_zero, List.set_cons_succ]
            refine wpAnyH_ready (rs := [1]) (by kernel_rfl) (by simp) ?_
            refine ready_cons 1 rfl rfl (fun K hK => ?_) ?_
            · skip
              go_simp
              refine (clone_any _ (gr rows k) _ (HU.out.new hHeld14)).mono ?_
              rintro e wn15 ⟨u1, rfl, ho1, hf1, hn1⟩
              obtain ⟨a1, l1, c1, rfl, _, _, _⟩ := ho1.opened hmidx
              refine hK.out _ _ (hHeld14.trans hn1) (fun hHeld15 => ?_)
              have HBc := Lib.hid (fun g (hg : (Value.slice a1 l1 c1).ownBlock = some g) => And.intro (hf1 g hg) (ho1.lt hg))
              have hsz15 := hn1.size
              replace Ha := Lib.hid (Ha.out.new hn1)
              replace Hm := Lib.hid (Hm.out.new hn1)
              have Hc := Lib.hid ho1
              clear hK K ho1 hn1 hf1
              try simp only [Act.put, List.setIfInBounds_toArray, List.set_cons_zero, List.set_cons_succ]
              refine held_take 5 (some 32) rfl rfl (by kernel_rfl) (by kernel_rfl) (by kernel_rfl) (fun _ _ _ h => h) rfl hHeld15 (v := .agg #[.slice a1 l1 c1, .slice (some ⟨gm, 0, none⟩) m m]) (fun w' hS => by skip; go_simp; try with_reducible rfl) ?_
              try simp only [Act.put, List.setIfInBounds_toArray, List.set_cons_zero, List.set_cons_succ]
              refine held_only 7 (by kernel_rfl) rfl rfl (fun K hK => ?_)
              obtain ⟨e0, e1, e2, e3⟩ := Ha.out.cells
              go_simp
              obtain ⟨x0, x1, x2⟩ := madePut wz wn15 ga gm (.slice a1 l1 c1) m (gr rows k) hHeld15 Ha.out Hc.out Hm.out (by have := HBa.out; have := hHeld.size; omega) (fun g hg => by have := HBc.out g hg; have := hHeld.size; omega) (by have := HBm.out; have := hHeld.size; omega) (fun g hg => by have := HBc.out g hg; have := HBm.out; omega) (fun g hg => by have := HBc.out g hg; have := HBa.out; omega) (by have := HBa.out; have := HBm.out; omega)
              refine hK.out _ _ x1 (fun hHeldE => ?_)
              clear hK K e0 e1 e2 e3
              refine wpAnyH_done (by kernel_rfl) ?_ _
              go_wp2_with fail
              go_meet
              exact ⟨ga, _, _, rfl, x0⟩
            exact AllReadyH.nil
          exact AllReadyH.nil
        exact AllReadyH.nil
      case rest =>
      obtain ⟨g, vr, vf, rfl, HMI⟩ := hcut
      have hmi := HMI.out
      obtain ⟨ar, lr, cr, rfl, HLR, hlr, _⟩ := hmi.row.opened (by rw [List.length_map, (HGR.out k hkr).1]; unfold Mid; omega)
      obtain ⟨af, lf, cf, rfl, HLF, hlf, _⟩ := hmi.fac.opened (by simp; unfold Mid; omega)
      have hlfm : m = lf := by rw [HLF.out]; simp
      subst hlfm
      obtain ⟨gf0, rfl⟩ := hmi.fac.head (i := k) (by simp; exact hkm)
      obtain ⟨cf0, ff0⟩ := hmi.fac.cell (i := k) (by simp; exact hkm)
      obtain ⟨d0, d1, _, _⟩ := hmi.blk.cells
      have hbk := HL.out.2.2.1.new hmi.new
      have hbp := HL.out.2.2.2.1.new hmi.new
      obtain ⟨k0, kf0⟩ := hbk.cells
      obtain ⟨p0, pf0⟩ := hbp.cells
      have hsb : w.heap.size + 1 + 1 < wz.heap.size := HL.out.2.2.1.lt
      have hgz : wz.heap.size ≤ g := hmi.old.1
      have hgf : wz.heap.size ≤ gf0 := hmi.old.2.2 gf0 rfl
      have hgg : gf0 ≠ g := hmi.apart.2.2 gf0 rfl
      obtain ⟨w2, hw2⟩ : ∃ w2 : World, w2 = wc.setCell ⟨gf0, k, none⟩ (.int .i64 1) := ⟨_, rfl⟩
      have hch : Chg (· = gf0) wc w2 := by rw [hw2]; exact Chg.setCell wc ⟨gf0, k, none⟩ (.int .i64 1)
      have hfac2 : Own w2 3 (.slice (some ⟨gf0, 0, none⟩) m cf) ((unitF rows.length k).map (Value.int .i64)) := by
        have h := hmi.fac.set k (.int .i64 1)
        rw [set_map_int, ← hw2] at h
        unfold unitF
        rw [← HN.out]
        exact h
      have hrow2 : Own w2 3 (.slice ar lr cr) ((gr rows k).map (Value.int .i64)) := hmi.row.chg hch (fun h hg hs => hmi.apart.1 h hg (by rw [hs]; rfl))
      have hn2 : New wz w2 := hmi.new.then hch (fun i hi => by rw [hi]; exact hgf)
      have hblk2 := hmi.blk.chg hch (by omega)
      have hbk2 := hbk.chg hch (by omega)
      have hbp2 := hbp.chg hch (by omega)
      have HW2 := Lib.hid hw2
      have H2 := Lib.hid (And.intro hfac2 (And.intro hrow2 (And.intro hn2 (And.intro hblk2 (And.intro hbk2 hbp2)))))
      have HAP := Lib.hid (And.intro hmi.old hmi.apart)
      clear hw2 hch hfac2 hrow2 hn2 hblk2 hbk2 hbp2 hmi
      obtain ⟨q0, q1, _, _⟩ := H2.out.2.2.2.1.cells
      rw [HW2.out] at q0 q1
      go_wp2_with fail
      rw [← HW2.out]
      clear q0 q1 d0 d1 k0 kf0 p0 pf0 cf0 ff0 hbk hbp HMI
      refine (less_any q HQ.out n k rows K (gr rows k, unitF rows.length k) wz.heap.size _ _ vk _ _ pr _ HL.out.1 (HL.out.2.1.new H2.out.2.2.1) (HGR.out k hkr) (unitF_good hqp.1) H2.out.2.1 H2.out.1 HAP.out.1.2.1 HAP.out.1.2.2 HAP.out.2.1 H2.out.2.2.2.2.1.cells.1 H2.out.2.2.2.2.2.cells.1 (by omega) (by omega) hn7 (by rw [← HN.out]; omega) (by omega)).mono ?_
      rintro e w3 ⟨rfl, hr3, hf3, hc3⟩
      have hL1 := HL.out.1
      have hless := hL1.less (p := q) (n := n) (k := k) (x := (gr rows k, unitF rows.length k)) (by omega) (HGR.out k hkr) (unitF_good hqp.1)
      obtain ⟨y, hy⟩ : ∃ y, y = lessF q K (gr rows k, unitF rows.length k) := ⟨_, rfl⟩
      rw [← hy] at hr3 hf3 hless
      have HLR := Lib.hid hless
      have hmidr : Mid y.1.length := hless.good.1.mid (by omega)
      have hB3 : ∀ h, ((Value.slice ar lr cr).ownBlock = some h ∨ (Value.slice (some ⟨gf0, 0, none⟩) m cf).ownBlock = some h) → wz.heap.size ≤ h := fun h hg => by
        rcases hg with c | c
        · exact HAP.out.1.2.1 h c
        · exact HAP.out.1.2.2 h c
      have hn3 : New wz w3 := H2.out.2.2.1.then hc3 hB3
      have hblk3 := H2.out.2.2.2.1.chg hc3 (fun h => by rcases h with c | c; (exact HAP.out.2.2.1 _ c rfl); (exact HAP.out.2.2.2 _ c rfl))
      have hbk3 := H2.out.2.2.2.2.1.chg hc3 (fun h => by have := hB3 _ h; omega)
      have hbp3 := H2.out.2.2.2.2.2.chg hc3 (fun h => by have := hB3 _ h; omega)
      have H3 := Lib.hid (And.intro hn3 (And.intro hblk3 (And.intro hbk3 hbp3)))
      have HR3 := Lib.hid hr3
      have HF3 := Lib.hid hf3
      have HIR := Lib.hid (hr3.isI hmidr)
      obtain ⟨d0, d1, _, _⟩ := hblk3.cells
      clear hless hr3 hf3 hc3 hB3 hn3 hblk3 hbk3 hbp3 hmidr hy
      go_wp2_with fail
      refine (lead_any _ _ _ HIR.out).mono ?_
      rintro e w' ⟨rfl, rfl⟩
      by_cases hneg : leadZ y.1 < 0
      · have HKS := Lib.hid (HL.out.1.skip HLR.out hneg)
        go_wp2_with fail
        go_roundg (m - (k + 1))
        case measure => go_light; omega
        case rel =>
          go_light
          exact ⟨k + 1, K, vk, pr, by go_num, by omega, rfl, HKS.out, HL.out.2.1.up H3.out.1 (fun _ x => x.elim), H3.out.2.2.1, H3.out.2.2.2, HL.out.2.2.2.2.1.trans H3.out.1, HL.out.2.2.2.2.2⟩
      · have hpos : 0 ≤ leadZ y.1 := by omega
        have hlz := lead_nat hpos
        have hls := lead_some HLR.out.good.1 hpos
        have hkeep := HL.out.1.keep HQ.out hkr HLR.out hpos
        obtain ⟨l, hl⟩ : ∃ l, l = ldN y.1 := ⟨_, rfl⟩
        rw [← hl] at hlz hls
        rw [hlz]
        have hln := hls.1
        obtain ⟨gr0, rfl⟩ := HR3.out.head (i := l) (by rw [List.length_map, HLR.out.good.1.1]; exact hln)
        have cx := HR3.out.num (i := l) (by rw [HLR.out.good.1.1]; exact hln)
        have hbx := HLR.out.good.1.2 l hln
        have hx0 : gi y.1 l ≠ 0 := fun e => hls.2.1 ((vec_zero HLR.out.good.1).2 e)
        have hlr' : l < lr := by have := HR3.out.len; rw [List.length_map, HLR.out.good.1.1] at this; omega
        obtain ⟨z, hz⟩ : ∃ z, z = gi y.1 l := ⟨_, rfl⟩
        rw [← hz] at cx hbx hx0
        have hpb : prB q = true := by rw [prB_iff]; have := HQ.out; unfold Pr at this; omega
        have hiv := invZ_spec hpb (x := z) (by omega) hbx.2
        obtain ⟨iv, hivd⟩ : ∃ iv, iv = invZ q z := ⟨_, rfl⟩
        rw [← hivd] at hiv
        have hiv1 := hiv.1
        have hiv2 := hiv.2.1

        have HINV := Lib.hid hivd
        have HKEEP := Lib.hid hkeep
        have HZ := Lib.hid hz
        have HLD := Lib.hid hl
        have HPB := Lib.hid hpb
        have hz1 : 1 ≤ z := by omega
        have hz2 : z < q := hbx.2
        obtain ⟨p0, pf0⟩ := H3.out.2.2.2.cells
        have hgr1 : wz.heap.size ≤ gr0 := HAP.out.1.2.1 gr0 rfl
        have hgr2 : gr0 ≠ g := HAP.out.2.2.1 gr0 rfl
        have hgr3 : gr0 ≠ gf0 := fun e => HAP.out.2.1 gr0 rfl (by rw [e]; rfl)
        clear hlz hls hneg hpos hiv hivd hkeep hz hl hpb
        go_wp2_with fail
        go_quiet ((go_at_call 52; exact Calls.quiet_of_same ((inverse_any _ _ _ HPB.out hz1 hz2).mono fun e w' h => ⟨by rw [h.1, ← HINV.out], h.2.symm⟩)))

        obtain ⟨w5, hw5⟩ : ∃ w5 : World, w5 = w3.drewN nq := ⟨_, rfl⟩
        rw [← hw5]
        have hn5 : New w3 w5 := by rw [hw5]; exact New.drewN _ _
        clear hw5
        have s0 := hn5.cellNew p0
        have s1 := hn5.cellNew d0
        have s2 := hn5.cellNew d1
        have HR5 := Lib.hid ((HR3.out.new hn5).new (New.drew w5))
        have HIR5 := Lib.hid ((HIR.out.new hn5).new (New.drew w5))
        have HF5 := Lib.hid (HF3.out.new hn5)
        have HN5 := Lib.hid hn5
        have HB5 := Lib.hid (And.intro (H3.out.1.trans hn5) (And.intro (H3.out.2.1.new hn5) (And.intro (H3.out.2.2.1.new hn5) (H3.out.2.2.2.new hn5))))
        clear hn5 p0 pf0 d0 d1 cx
        go_wp2_with fail
        refine wp_region_held_drew (S := fun w' => w'.cell? ⟨w.heap.size, 0, none⟩ = some (.int .i64 q) ∧ w'.cell? ⟨g, 0, none⟩ = some (.slice (some ⟨gr0, 0, none⟩) lr cr) ∧ w'.cell? ⟨g, 1, none⟩ = some (.slice (some ⟨gf0, 0, none⟩) m cf)) (by kernel_rfl) ⟨s0, s1, s2⟩ (fun hHeld => ?_)
        refine held_take 0 (some 53) rfl rfl (by kernel_rfl) (by kernel_rfl) (by kernel_rfl) (fun _ _ _ h => h) rfl hHeld (v := .int .i64 q) (fun w' hS => by obtain ⟨e0, e1, e2⟩ := hS; go_simp; try with_reducible rfl) ?_
        try simp only [Act.put, List.setIfInBounds_toArray, List.set_cons_zero, List.set_cons_succ]
        refine held_take 1 (some 54) rfl rfl (by kernel_rfl) (by kernel_rfl) (by kernel_rfl) (fun _ _ _ h => h) rfl hHeld (v := ?_) (fun w' hS => by obtain ⟨e0, e1, e2⟩ := hS; go_simp; try with_reducible rfl) ?_
        try simp only [Act.put, List.setIfInBounds_toArray, List.set_cons_zero, List.set_cons_succ]
        refine held_take 2 (some 55) rfl rfl (by kernel_rfl) (by kernel_rfl) (by kernel_rfl) (fun _ _ _ h => h) rfl hHeld (v := Value.slice (some ⟨gr0, 0, none⟩) lr cr) (fun w' hS => by obtain ⟨e0, e1, e2⟩ := hS; go_simp; try with_reducible rfl) ?_
        try simp only [Act.put, List.setIfInBounds_toArray, List.set_cons_zero, List.set_cons_succ]
        refine held_take 3 (some 56) rfl rfl (by kernel_rfl) (by kernel_rfl) (by kernel_rfl) (fun _ _ _ h => h) rfl hHeld (v := ?_) (fun w' hS => by obtain ⟨e0, e1, e2⟩ := hS; go_simp; try with_reducible rfl) ?_
        try simp only [Act.put, List.setIfInBounds_toArray, List.set_cons_zero, List.set_cons_succ]
        refine held_take 4 (some 57) rfl rfl (by kernel_rfl) (by kernel_rfl) (by kernel_rfl) (fun _ _ _ h => h) rfl hHeld (v := ?_) (fun w' hS => by obtain ⟨e0, e1, e2⟩ := hS; go_simp; try with_reducible rfl) ?_
        try simp only [Act.put, List.setIfInBounds_toArray, List.set_cons_zero, List.set_cons_succ]
        refine held_take 5 (some 58) rfl rfl (by kernel_rfl) (by kernel_rfl) (by kernel_rfl) (fun _ _ _ h => h) rfl hHeld (v := Value.slice (some ⟨gr0, 0, none⟩) lr cr) (fun w' hS => by obtain ⟨e0, e1, e2⟩ := hS; go_simp; try with_reducible rfl) ?_
        try simp only [Act.put, List.setIfInBounds_toArray, List.set_cons_zero, List.set_cons_succ]
        refine held_only 6 (by kernel_rfl) rfl rfl (fun Kc hKc => ?_)
        go_simp
        refine (clone_any _ y.1 _ HIR5.out).mono ?_
        rintro e w6a ⟨uc, rfl, ho1, hf1, hn1⟩
        refine hKc.out _ _ ⟨hn1.cellNew hHeld.1, hn1.cellNew hHeld.2.1, hn1.cellNew hHeld.2.2⟩ (fun hHeld2 => ?_)
        clear hKc Kc
        refine held_only 7 (by kernel_rfl) rfl rfl (fun Kc hKc => ?_)
        go_simp
        have hap : Apart (Value.slice (some ⟨gr0, 0, none⟩) lr cr) uc := fun h hg hx => by have h1 := HR5.out.lt hg; have h2 := hf1 h hx; omega
        refine (add_any _ _ _ _ y.1 y.1 _ (by omega) (by omega) (HR5.out.new hn1) (ho1.isI (HLR.out.good.1.mid (by omega))) hap (Nat.le_refl _) (HLR.out.good.1.sm (by omega)) (HLR.out.good.1.sm (by omega)) (HLR.out.good.1.mid (by omega))).mono ?_
        rintro e w6 ⟨rfl, ho2, hc2⟩
        have hch := Chg.trans (New.drew _) (Chg.trans hn1 hc2 (U := fun h => (Value.slice (some ⟨gr0, 0, none⟩) lr cr).ownBlock = some h) (fun _ _ x => x.elim) (fun _ _ x => x)) (U := fun h => (Value.slice (some ⟨gr0, 0, none⟩) lr cr).ownBlock = some h) (fun _ _ x => x.elim) (fun _ _ x => x)
        refine hKc.out _ _ ⟨hc2.cell hHeld2.1 (fun h => by simp [Value.ownBlock] at h; omega), hc2.cell hHeld2.2.1 (fun h => by simp [Value.ownBlock] at h; omega), hc2.cell hHeld2.2.2 (fun h => by simp [Value.ownBlock] at h; omega)⟩ (fun hHeld3 => ?_)
        clear hKc Kc hHeld hHeld2
        refine wpAnyH_done (by kernel_rfl) ?_ _
        have HR6 := Lib.hid ho2
        have HCH6 := Lib.hid hch
        have HF6 := Lib.hid ((HF5.out.chg hch (fun h hg hs => by simp [Value.ownBlock] at hg hs; omega)).new (New.drew w6))
        have HIF6 := Lib.hid (HF6.out.isI (HLR.out.good.2.mid (by omega)))
        clear ho1 hf1 hn1 hap ho2 hc2 hch s0 s1 s2
        obtain ⟨s0, s1, s2⟩ := hHeld3
        go_wp2_with fail
        refine wp_region_held_drew (S := fun w' => w'.cell? ⟨w.heap.size, 0, none⟩ = some (.int .i64 q) ∧ w'.cell? ⟨g, 0, none⟩ = some (.slice (some ⟨gr0, 0, none⟩) lr cr) ∧ w'.cell? ⟨g, 1, none⟩ = some (.slice (some ⟨gf0, 0, none⟩) m cf)) (by kernel_rfl) ⟨s0, s1, s2⟩ (fun hHeld => ?_)
        refine held_take 0 (some 61) rfl rfl (by kernel_rfl) (by kernel_rfl) (by kernel_rfl) (fun _ _ _ h => h) rfl hHeld (v := .int .i64 q) (fun w' hS => by obtain ⟨e0, e1, e2⟩ := hS; go_simp; try with_reducible rfl) ?_
        try simp only [Act.put, List.setIfInBounds_toArray, List.set_cons_zero, List.set_cons_succ]
        refine held_take 1 (some 62) rfl rfl (by kernel_rfl) (by kernel_rfl) (by kernel_rfl) (fun _ _ _ h => h) rfl hHeld (v := ?_) (fun w' hS => by obtain ⟨e0, e1, e2⟩ := hS; go_simp; try with_reducible rfl) ?_
        try simp only [Act.put, List.setIfInBounds_toArray, List.set_cons_zero, List.set_cons_succ]
        refine held_take 2 (some 63) rfl rfl (by kernel_rfl) (by kernel_rfl) (by kernel_rfl) (fun _ _ _ h => h) rfl hHeld (v := Value.slice (some ⟨gf0, 0, none⟩) m cf) (fun w' hS => by obtain ⟨e0, e1, e2⟩ := hS; go_simp; try with_reducible rfl) ?_
        try simp only [Act.put, List.setIfInBounds_toArray, List.set_cons_zero, List.set_cons_succ]
        refine held_take 3 (some 64) rfl rfl (by kernel_rfl) (by kernel_rfl) (by kernel_rfl) (fun _ _ _ h => h) rfl hHeld (v := ?_) (fun w' hS => by obtain ⟨e0, e1, e2⟩ := hS; go_simp; try with_reducible rfl) ?_
        try simp only [Act.put, List.setIfInBounds_toArray, List.set_cons_zero, List.set_cons_succ]
        refine held_take 4 (some 65) rfl rfl (by kernel_rfl) (by kernel_rfl) (by kernel_rfl) (fun _ _ _ h => h) rfl hHeld (v := ?_) (fun w' hS => by obtain ⟨e0, e1, e2⟩ := hS; go_simp; try with_reducible rfl) ?_
        try simp only [Act.put, List.setIfInBounds_toArray, List.set_cons_zero, List.set_cons_succ]
        refine held_take 5 (some 66) rfl rfl (by kernel_rfl) (by kernel_rfl) (by kernel_rfl) (fun _ _ _ h => h) rfl hHeld (v := Value.slice (some ⟨gf0, 0, none⟩) m cf) (fun w' hS => by obtain ⟨e0, e1, e2⟩ := hS; go_simp; try with_reducible rfl) ?_
        try simp only [Act.put, List.setIfInBounds_toArray, List.set_cons_zero, List.set_cons_succ]
        refine held_only 6 (by kernel_rfl) rfl rfl (fun Kc hKc => ?_)
        go_simp
        refine (clone_any _ y.2 _ HIF6.out).mono ?_
        rintro e w7a ⟨uc, rfl, ho1, hf1, hn1⟩
        refine hKc.out _ _ ⟨hn1.cellNew hHeld.1, hn1.cellNew hHeld.2.1, hn1.cellNew hHeld.2.2⟩ (fun hHeld2 => ?_)
        clear hKc Kc
        refine held_only 7 (by kernel_rfl) rfl rfl (fun Kc hKc => ?_)
        go_simp
        have hap : Apart (Value.slice (some ⟨gf0, 0, none⟩) m cf) uc := fun h hg hx => by have h1 := HF6.out.lt hg; have h2 := hf1 h hx; omega
        refine (add_any _ _ _ _ y.2 y.2 _ (by omega) (by omega) (HF6.out.new hn1) (ho1.isI (HLR.out.good.2.mid (by omega))) hap (Nat.le_refl _) (HLR.out.good.2.sm (by omega)) (HLR.out.good.2.sm (by omega)) (HLR.out.good.2.mid (by omega))).mono ?_
        rintro e w7 ⟨rfl, ho2, hc2⟩
        have hch := Chg.trans (New.drew _) (Chg.trans hn1 hc2 (U := fun h => (Value.slice (some ⟨gf0, 0, none⟩) m cf).ownBlock = some h) (fun _ _ x => x.elim) (fun _ _ x => x)) (U := fun h => (Value.slice (some ⟨gf0, 0, none⟩) m cf).ownBlock = some h) (fun _ _ x => x.elim) (fun _ _ x => x)
        refine hKc.out _ _ ⟨hc2.cell hHeld2.1 (fun h => by simp [Value.ownBlock] at h; omega), hc2.cell hHeld2.2.1 (fun h => by simp [Value.ownBlock] at h; omega), hc2.cell hHeld2.2.2 (fun h => by simp [Value.ownBlock] at h; omega)⟩ (fun hHeld3 => ?_)
        clear hKc Kc hHeld hHeld2
        refine wpAnyH_done (by kernel_rfl) ?_ _
        have HF7 := Lib.hid ho2
        have HCH7 := Lib.hid hch
        clear ho1 hf1 hn1 hap ho2 hc2 hch s0 s1 s2
        obtain ⟨s0, s1, s2⟩ := hHeld3
        have hpl : pr.length ≤ 7 := by rw [HL.out.2.1.len]; have := HL.out.1.few; omega
        have hlen2 : pr.length + 1 ≤ 1099511627776 := by omega
        obtain ⟨ak, nk, ck, rfl, _, _, _⟩ := HL.out.2.1.outer.opened (by unfold Mid; omega)
        have hc57 : Chg (fun h => h = gr0 ∨ h = gf0) w5 w7 := Chg.trans HCH6.out HCH7.out (fun i _ hi => .inl (by simp [Value.ownBlock] at hi; omega)) (fun i _ hi => .inr (by simp [Value.ownBlock] at hi; omega))
        have hz7 : New wz w7 := HB5.out.1.then hc57 (fun i hi => by rcases hi with e | e <;> omega)
        have hbk7 := HB5.out.2.2.1.chg hc57 (fun e => by rcases e with e | e <;> omega)
        have hbp7 := HB5.out.2.2.2.chg hc57 (fun e => by rcases e with e | e <;> omega)
        have hr7 := HR6.out.chg HCH7.out (fun h hg hs => by simp [Value.ownBlock] at hg hs; omega)
        have hk7 := HL.out.2.1.new hz7
        have hvk := HL.out.2.2.2.2.2
        have hk77 : ∀ g, (Value.slice ak nk ck).ownBlock = some g → ¬ w.heap.size + 1 + 1 = g := fun g hg e => (hvk g hg).2 e.symm
        have HZ7 := Lib.hid (And.intro hz7 (And.intro hbk7 (And.intro hbp7 (And.intro hr7 hk7))))
        have HK77 := Lib.hid hk77
        obtain ⟨kc0, kf0⟩ := hbk7.cells
        have hs7 : wz.heap.size ≤ w7.heap.size := hz7.size
        clear hc57 hz7 hbk7 hbp7 hr7 hk7 hvk hk77
        go_wp2_with (at_builtin; refine wpList_app2 rfl _ _ _ rfl tyMade w7 HZ7.out.2.2.2.2.outer rfl _ _ _ rfl rfl ⟨rfl, rfl⟩ hlen2 ?_; intro v8 w8 k1 k2 k3; obtain ⟨a8, n8, c8, rfl, _, _, _⟩ := k1.opened (by rw [List.length_append]; unfold Mid; simp; omega); have H8 := Lib.hid (And.intro k1 (And.intro k2 k3)); obtain ⟨kd0, kd1⟩ := (HZ7.out.2.1.chg k2 (fun e => HK77.out _ e rfl)).cells; clear k1 k2 k3)
        go_roundg (m - (k + 1))
        case measure => go_light; omega
        case rel =>
          go_light
          obtain ⟨k1, k2, k3⟩ := H8.out
          have hb8 := HZ7.out.2.1.chg k2 (fun e => HK77.out _ e rfl)
          have hp8 := HZ7.out.2.2.1.chg k2 (fun e => by have := (HL.out.2.2.2.2.2 _ e).1; omega)
          have hz8 : Chg (fun g => (Value.slice ak nk ck).ownBlock = some g ∨ wz.heap.size ≤ g) wz w8 := Chg.trans HZ7.out.1 k2 (fun _ _ x => x.elim) (fun _ _ x => .inl x)
          have hn8 : New w w8 := New.then HL.out.2.2.2.2.1 hz8 (fun g hg => by
            rcases hg with c | c
            · have := (HL.out.2.2.2.2.2 g c).1; omega
            · omega)
          have hne : (118 : Nat) ≠ 3 := by decide
          have er : (normF q y).1 = addZ q y.1 (iv - 1) y.1 := by unfold normF; rw [← HLD.out, ← HZ.out, ← HINV.out]
          have ef : (normF q y).2 = addZ q y.2 (iv - 1) y.2 := by unfold normF; rw [← HLD.out, ← HZ.out, ← HINV.out]
          have hks := KMem.snoc (x := normF q y) HL.out.2.1 k1 hz8 (fun g hg => hg) (by
            rw [er]
            exact HZ7.out.2.2.2.1.chg k2 (fun g hg hs => HZ7.out.2.2.2.2.outer.apart HZ7.out.2.2.2.1 hne g hs hg)) (by
            rw [ef]
            exact HF7.out.chg k2 (fun g hg hs => HZ7.out.2.2.2.2.outer.apart HF7.out hne g hs hg))
          have hset : Chg (· = w.heap.size + 1 + 1) w8 (w8.setCell ⟨w.heap.size + 1 + 1, 0, none⟩ (.slice a8 n8 c8)) := Chg.setCell w8 ⟨w.heap.size + 1 + 1, 0, none⟩ _
          refine ⟨k + 1, K ++ [normF q y], _, _, by go_num, by omega, rfl, HKEEP.out, hks.box hb8 hset, hb8.put _, hp8.chg hset (by omega), hn8.then hset (fun i hi => by omega), fun g hg => ?_⟩
          rcases k3 g hg with c | c
          · exact HL.out.2.2.2.2.2 g c
          · have := HL.out.2.2.1.lt; omega
    · obtain rfl : k = m := by omega
      have HGZ := Lib.hid (HG.out.new HL.out.2.2.2.2.1)
      go_upto_region 16 with fail
      go_cut [15] (fun s15 wx => ∃ (g : Nat) (vr vf : Value), s15 = .pointer (some ⟨g, 0, none⟩) ∧ Hid (MadeIs wz wx g vr vf goal (List.replicate k 0)))
      case first =>
        have hmidx : Mid (goal.map (Value.int .i64)).length := by rw [List.length_map, HGG.out.1]; unfold Mid; omega
        refine wp_region_held_drew (S := fun w' => New wz w') (by kernel_rfl) (New.drew _) (fun hHeld => ?_)
        obtain ⟨wd, hwd⟩ : ∃ wd : World, wd = wz.drew := ⟨_, rfl⟩
        rw [← hwd] at hHeld ⊢
        clear hwd
        refine held_take 0 (some 74) rfl rfl (by kernel_rfl) (by kernel_rfl) (by kernel_rfl) (fun _ _ _ h => h) rfl hHeld (v := .slice ag n cg) (fun w' hS => by skip; go_simp; try with_reducible rfl) ?_
        try simp only [Act.put, List.setIfInBounds_toArray, List.set_cons_zero, List.set_cons_succ]
        refine held_take 2 (some 76) rfl rfl (by kernel_rfl) (by kernel_rfl) (by kernel_rfl) (fun _ _ _ h => h) rfl hHeld (v := ?_) (fun w' hS => by skip; go_simp; try with_reducible rfl) ?_
        try simp only [Act.put, List.setIfInBounds_toArray, List.set_cons_zero, List.set_cons_succ]
        refine held_take 3 (some 77) rfl rfl (by kernel_rfl) (by kernel_rfl) (by kernel_rfl) (fun _ _ _ h => h) rfl hHeld (v := .int .i64 k) (fun w' hS => by skip; go_simp; try with_reducible rfl) ?_
        try simp only [Act.put, List.setIfInBounds_toArray, List.set_cons_zero, List.set_cons_succ]
        refine wpAnyH_ready (rs := [1, 4, 6]) (by kernel_rfl) (by simp) ?_
        refine ready_cons 1 rfl rfl (fun K hK => ?_) ?_
        · skip
          go_simp
          refine (clone_any _ goal _ (HGZ.out.new hHeld)).mono ?_
          rintro e wn1 ⟨u1, rfl, ho1, hf1, hn1⟩
          obtain ⟨a1, l1, c1, rfl, _, _, _⟩ := ho1.opened hmidx
          refine hK.out _ _ (hHeld.trans hn1) (fun hHeld1 => ?_)
          have HBc := Lib.hid (fun g (hg : (Value.slice a1 l1 c1).ownBlock = some g) => And.intro (hf1 g hg) (ho1.lt hg))
          have hsz1 := hn1.size
          have Hc := Lib.hid ho1
          clear hK K ho1 hn1 hf1
          try simp only [Act.put, List.setIfInBounds_toArray, List.set_cons_zero, List.set_cons_succ]
          refine wpAnyH_ready (rs := [4, 6]) (by kernel_rfl) (by simp) ?_
          refine ready_cons 4 rfl rfl (fun K hK => ?_) ?_
          · skip
            have hmk := HMK.out
            go_simp
            clear hmk
            have hn1 : New wn1 (wn1.alloc (.cells cs 3)) := New.alloc _ _
            have ho1 : Own (wn1.alloc (.cells cs 3)) 3 (.slice (some ⟨wn1.heap.size, 0, none⟩) k k) ((List.replicate k 0).map (Value.int .i64)) := HMKO.out wn1
            have hsm : wn1.heap.size < (wn1.alloc (.cells cs 3)).heap.size := by rw [World.size_alloc]; omega
            obtain ⟨wn2, hW2⟩ : ∃ w' : World, w' = wn1.alloc (.cells cs 3) := ⟨_, rfl⟩
            rw [← hW2] at hn1 ho1 hsm ⊢
            obtain ⟨gm, hgm⟩ : ∃ g, g = wn1.heap.size := ⟨_, rfl⟩
            rw [← hgm] at ho1 ⊢
            refine hK.out _ _ (hHeld1.trans hn1) (fun hHeld2 => ?_)
            have HBm : Hid (wn1.heap.size ≤ gm ∧ gm < wn2.heap.size) := by show _ ∧ _; omega
            clear hW2 hgm hsm
            have hsz2 := hn1.size
            replace Hc := Lib.hid (Hc.out.new hn1)
            have Hm := Lib.hid ho1
            clear hK K ho1 hn1
            try simp only [Act.put, List.setIfInBounds_toArray, List.set_cons_zero, List.set_cons_succ]
            refine held_take 5 (some 79) rfl rfl (by kernel_rfl) (by kernel_rfl) (by kernel_rfl) (fun _ _ _ h => h) rfl hHeld2 (v := .agg #[.slice a1 l1 c1, .slice (some ⟨gm, 0, none⟩) k k]) (fun w' hS => by skip; go_simp; try with_reducible rfl) ?_
            try simp only [Act.put, List.setIfInBounds_toArray, List.set_cons_zero, List.set_cons_succ]
            refine wpAnyH_ready (rs := [6]) (by kernel_rfl) (by simp) ?_
            refine ready_cons 6 rfl rfl (fun K hK => ?_) ?_
            · skip
              go_simp
              have hn1 : New wn2 (wn2.alloc (.cells #[.slice none 0 0, .slice none 0 0] 118)) := New.alloc _ _
              have ho1 := Blk2.alloc wn2 (.slice none 0 0) (.slice none 0 0) 118
              have hsm : wn2.heap.size < (wn2.alloc (.cells #[.slice none 0 0, .slice none 0 0] 118)).heap.size := by rw [World.size_alloc]; omega
              obtain ⟨wn3, hW2⟩ : ∃ w' : World, w' = wn2.alloc (.cells #[.slice none 0 0, .slice none 0 0] 118) := ⟨_, rfl⟩
              rw [← hW2] at hn1 ho1 hsm ⊢
              obtain ⟨ga, hga⟩ : ∃ g, g = wn2.heap.size := ⟨_, rfl⟩
              rw [← hga] at ho1 ⊢
              refine hK.out _ _ (hHeld2.trans hn1) (fun hHeld3 => ?_)
              have HBa : Hid (wn2.heap.size ≤ ga ∧ ga < wn3.heap.size) := by show _ ∧ _; omega
              clear hW2 hga hsm
              have hsz3 := hn1.size
              replace Hc := Lib.hid (Hc.out.new hn1)
              replace Hm := Lib.hid (Hm.out.new hn1)
              have Ha := Lib.hid ho1
              clear hK K ho1 hn1
              try simp only [Act.put, List.setIfInBounds_toArray, List.set_cons_zero, List.set_cons_succ]
              refine held_only 7 (by kernel_rfl) rfl rfl (fun K hK => ?_)
              obtain ⟨e0, e1, e2, e3⟩ := Ha.out.cells
              go_simp
              obtain ⟨x0, x1, x2⟩ := madePut wz wn3 ga gm (.slice a1 l1 c1) k goal hHeld3 Ha.out Hc.out Hm.out (by have := HBa.out; have := hHeld.size; omega) (fun g hg => by have := HBc.out g hg; have := hHeld.size; omega) (by have := HBm.out; have := hHeld.size; omega) (fun g hg => by have := HBc.out g hg; have := HBm.out; omega) (fun g hg => by have := HBc.out g hg; have := HBa.out; omega) (by have := HBa.out; have := HBm.out; omega)
              refine hK.out _ _ x1 (fun hHeldE => ?_)
              clear hK K e0 e1 e2 e3
              refine wpAnyH_done (by kernel_rfl) ?_ _
              go_wp2_with fail
              go_meet
              exact ⟨ga, _, _, rfl, x0⟩
            exact AllReadyH.nil
          refine ready_cons 6 rfl rfl (fun K hK => ?_) ?_
          · skip
            go_simp
            have hn1 : New wn1 (wn1.alloc (.cells #[.slice none 0 0, .slice none 0 0] 118)) := New.alloc _ _
            have ho1 := Blk2.alloc wn1 (.slice none 0 0) (.slice none 0 0) 118
            have hsm : wn1.heap.size < (wn1.alloc (.cells #[.slice none 0 0, .slice none 0 0] 118)).heap.size := by rw [World.size_alloc]; omega
            obtain ⟨wn4, hW2⟩ : ∃ w' : World, w' = wn1.alloc (.cells #[.slice none 0 0, .slice none 0 0] 118) := ⟨_, rfl⟩
            rw [← hW2] at hn1 ho1 hsm ⊢
            obtain ⟨ga, hga⟩ : ∃ g, g = wn1.heap.size := ⟨_, rfl⟩
            rw [← hga] at ho1 ⊢
            refine hK.out _ _ (hHeld1.trans hn1) (fun hHeld4 => ?_)
            have HBa : Hid (wn1.heap.size ≤ ga ∧ ga < wn4.heap.size) := by show _ ∧ _; omega
            clear hW2 hga hsm
            have hsz4 := hn1.size
            replace Hc := Lib.hid (Hc.out.new hn1)
            have Ha := Lib.hid ho1
            clear hK K ho1 hn1
            try simp only [Act.put, List.setIfInBounds_toArray, List.set_cons_zero, List.set_cons_succ]
            refine wpAnyH_ready (rs := [4]) (by kernel_rfl) (by simp) ?_
            refine ready_cons 4 rfl rfl (fun K hK => ?_) ?_
            · skip
              have hmk := HMK.out
              go_simp
              clear hmk
              have hn1 : New wn4 (wn4.alloc (.cells cs 3)) := New.alloc _ _
              have ho1 : Own (wn4.alloc (.cells cs 3)) 3 (.slice (some ⟨wn4.heap.size, 0, none⟩) k k) ((List.replicate k 0).map (Value.int .i64)) := HMKO.out wn4
              have hsm : wn4.heap.size < (wn4.alloc (.cells cs 3)).heap.size := by rw [World.size_alloc]; omega
              obtain ⟨wn5, hW2⟩ : ∃ w' : World, w' = wn4.alloc (.cells cs 3) := ⟨_, rfl⟩
              rw [← hW2] at hn1 ho1 hsm ⊢
              obtain ⟨gm, hgm⟩ : ∃ g, g = wn4.heap.size := ⟨_, rfl⟩
              rw [← hgm] at ho1 ⊢
              refine hK.out _ _ (hHeld4.trans hn1) (fun hHeld5 => ?_)
              have HBm : Hid (wn4.heap.size ≤ gm ∧ gm < wn5.heap.size) := by show _ ∧ _; omega
              clear hW2 hgm hsm
              have hsz5 := hn1.size
              replace Hc := Lib.hid (Hc.out.new hn1)
              replace Ha := Lib.hid (Ha.out.new hn1)
              have Hm := Lib.hid ho1
              clear hK K ho1 hn1
              try simp only [Act.put, List.setIfInBounds_toArray, List.set_cons_zero, List.set_cons_succ]
              refine held_take 5 (some 79) rfl rfl (by kernel_rfl) (by kernel_rfl) (by kernel_rfl) (fun _ _ _ h => h) rfl hHeld5 (v := .agg #[.slice a1 l1 c1, .slice (some ⟨gm, 0, none⟩) k k]) (fun w' hS => by skip; go_simp; try with_reducible rfl) ?_
              try simp only [Act.put, List.setIfInBounds_toArray, List.set_cons_zero, List.set_cons_succ]
              refine held_only 7 (by kernel_rfl) rfl rfl (fun K hK => ?_)
              obtain ⟨e0, e1, e2, e3⟩ := Ha.out.cells
              go_simp
              obtain ⟨x0, x1, x2⟩ := madePut wz wn5 ga gm (.slice a1 l1 c1) k goal hHeld5 Ha.out Hc.out Hm.out (by have := HBa.out; have := hHeld.size; omega) (fun g hg => by have := HBc.out g hg; have := hHeld.size; omega) (by have := HBm.out; have := hHeld.size; omega) (fun g hg => by have := HBc.out g hg; have := HBm.out; omega) (fun g hg => by have := HBc.out g hg; have := HBa.out; omega) (by have := HBa.out; have := HBm.out; omega)
              refine hK.out _ _ x1 (fun hHeldE => ?_)
              clear hK K e0 e1 e2 e3
              refine wpAnyH_done (by kernel_rfl) ?_ _
              go_wp2_with fail
              go_meet
              exact ⟨ga, _, _, rfl, x0⟩
            exact AllReadyH.nil
          exact AllReadyH.nil
        refine ready_cons 4 rfl rfl (fun K hK => ?_) ?_
        · skip
          have hmk := HMK.out
          go_simp
          clear hmk
          have hn1 : New wd (wd.alloc (.cells cs 3)) := New.alloc _ _
          have ho1 : Own (wd.alloc (.cells cs 3)) 3 (.slice (some ⟨wd.heap.size, 0, none⟩) k k) ((List.replicate k 0).map (Value.int .i64)) := HMKO.out wd
          have hsm : wd.heap.size < (wd.alloc (.cells cs 3)).heap.size := by rw [World.size_alloc]; omega
          obtain ⟨wn6, hW2⟩ : ∃ w' : World, w' = wd.alloc (.cells cs 3) := ⟨_, rfl⟩
          rw [← hW2] at hn1 ho1 hsm ⊢
          obtain ⟨gm, hgm⟩ : ∃ g, g = wd.heap.size := ⟨_, rfl⟩
          rw [← hgm] at ho1 ⊢
          refine hK.out _ _ (hHeld.trans hn1) (fun hHeld6 => ?_)
          have HBm : Hid (wd.heap.size ≤ gm ∧ gm < wn6.heap.size) := by show _ ∧ _; omega
          clear hW2 hgm hsm
          have hsz6 := hn1.size
          have Hm := Lib.hid ho1
          clear hK K ho1 hn1
          try simp only [Act.put, List.setIfInBounds_toArray, List.set_cons_zero, List.set_cons_succ]
          refine wpAnyH_ready (rs := [1, 6]) (by kernel_rfl) (by simp) ?_
          refine ready_cons 1 rfl rfl (fun K hK => ?_) ?_
          · skip
            go_simp
            refine (clone_any _ goal _ (HGZ.out.new hHeld6)).mono ?_
            rintro e wn7 ⟨u1, rfl, ho1, hf1, hn1⟩
            obtain ⟨a1, l1, c1, rfl, _, _, _⟩ := ho1.opened hmidx
            refine hK.out _ _ (hHeld6.trans hn1) (fun hHeld7 => ?_)
            have HBc := Lib.hid (fun g (hg : (Value.slice a1 l1 c1).ownBlock = some g) => And.intro (hf1 g hg) (ho1.lt hg))
            have hsz7 := hn1.size
            replace Hm := Lib.hid (Hm.out.new hn1)
            have Hc := Lib.hid ho1
            clear hK K ho1 hn1 hf1
            try simp only [Act.put, List.setIfInBounds_toArray, List.set_cons_zero, List.set_cons_succ]
            refine held_take 5 (some 79) rfl rfl (by kernel_rfl) (by kernel_rfl) (by kernel_rfl) (fun _ _ _ h => h) rfl hHeld7 (v := .agg #[.slice a1 l1 c1, .slice (some ⟨gm, 0, none⟩) k k]) (fun w' hS => by skip; go_simp; try with_reducible rfl) ?_
            try simp only [Act.put, List.setIfInBounds_toArray, List.set_cons_zero, List.set_cons_succ]
            refine wpAnyH_ready (rs := [6]) (by kernel_rfl) (by simp) ?_
            refine ready_cons 6 rfl rfl (fun K hK => ?_) ?_
            · skip
              go_simp
              have hn1 : New wn7 (wn7.alloc (.cells #[.slice none 0 0, .slice none 0 0] 118)) := New.alloc _ _
              have ho1 := Blk2.alloc wn7 (.slice none 0 0) (.slice none 0 0) 118
              have hsm : wn7.heap.size < (wn7.alloc (.cells #[.slice none 0 0, .slice none 0 0] 118)).heap.size := by rw [World.size_alloc]; omega
              obtain ⟨wn8, hW2⟩ : ∃ w' : World, w' = wn7.alloc (.cells #[.slice none 0 0, .slice none 0 0] 118) := ⟨_, rfl⟩
              rw [← hW2] at hn1 ho1 hsm ⊢
              obtain ⟨ga, hga⟩ : ∃ g, g = wn7.heap.size := ⟨_, rfl⟩
              rw [← hga] at ho1 ⊢
              refine hK.out _ _ (hHeld7.trans hn1) (fun hHeld8 => ?_)
              have HBa : Hid (wn7.heap.size ≤ ga ∧ ga < wn8.heap.size) := by show _ ∧ _; omega
              clear hW2 hga hsm
              have hsz8 := hn1.size
              replace Hm := Lib.hid (Hm.out.new hn1)
              replace Hc := Lib.hid (Hc.out.new hn1)
              have Ha := Lib.hid ho1
              clear hK K ho1 hn1
              try simp only [Act.put, List.setIfInBounds_toArray, List.set_cons_zero, List.set_cons_succ]
              refine held_only 7 (by kernel_rfl) rfl rfl (fun K hK => ?_)
              obtain ⟨e0, e1, e2, e3⟩ := Ha.out.cells
              go_simp
              obtain ⟨x0, x1, x2⟩ := madePut wz wn8 ga gm (.slice a1 l1 c1) k goal hHeld8 Ha.out Hc.out Hm.out (by have := HBa.out; have := hHeld.size; omega) (fun g hg => by have := HBc.out g hg; have := hHeld.size; omega) (by have := HBm.out; have := hHeld.size; omega) (fun g hg => by have := HBc.out g hg; have := HBm.out; omega) (fun g hg => by have := HBc.out g hg; have := HBa.out; omega) (by have := HBa.out; have := HBm.out; omega)
              refine hK.out _ _ x1 (fun hHeldE => ?_)
              clear hK K e0 e1 e2 e3
              refine wpAnyH_done (by kernel_rfl) ?_ _
              go_wp2_with fail
              go_meet
              exact ⟨ga, _, _, rfl, x0⟩
            exact AllReadyH.nil
          refine ready_cons 6 rfl rfl (fun K hK => ?_) ?_
          · skip
            go_simp
            have hn1 : New wn6 (wn6.alloc (.cells #[.slice none 0 0, .slice none 0 0] 118)) := New.alloc _ _
            have ho1 := Blk2.alloc wn6 (.slice none 0 0) (.slice none 0 0) 118
            have hsm : wn6.heap.size < (wn6.alloc (.cells #[.slice none 0 0, .slice none 0 0] 118)).heap.size := by rw [World.size_alloc]; omega
            obtain ⟨wn9, hW2⟩ : ∃ w' : World, w' = wn6.alloc (.cells #[.slice none 0 0, .slice none 0 0] 118) := ⟨_, rfl⟩
            rw [← hW2] at hn1 ho1 hsm ⊢
            obtain ⟨ga, hga⟩ : ∃ g, g = wn6.heap.size := ⟨_, rfl⟩
            rw [← hga] at ho1 ⊢
            refine hK.out _ _ (hHeld6.trans hn1) (fun hHeld9 => ?_)
            have HBa : Hid (wn6.heap.size ≤ ga ∧ ga < wn9.heap.size) := by show _ ∧ _; omega
            clear hW2 hga hsm
            have hsz9 := hn1.size
            replace Hm := Lib.hid (Hm.out.new hn1)
            have Ha := Lib.hid ho1
            clear hK K ho1 hn1
            try simp only [Act.put, List.setIfInBounds_toArray, List.set_cons_zero, List.set_cons_succ]
            refine wpAnyH_ready (rs := [1]) (by kernel_rfl) (by simp) ?_
            refine ready_cons 1 rfl rfl (fun K hK => ?_) ?_
            · skip
              go_simp
              refine (clone_any _ goal _ (HGZ.out.new hHeld9)).mono ?_
              rintro e wn10 ⟨u1, rfl, ho1, hf1, hn1⟩
              obtain ⟨a1, l1, c1, rfl, _, _, _⟩ := ho1.opened hmidx
              refine hK.out _ _ (hHeld9.trans hn1) (fun hHeld10 => ?_)
              have HBc := Lib.hid (fun g (hg : (Value.slice a1 l1 c1).ownBlock = some g) => And.intro (hf1 g hg) (ho1.lt hg))
              have hsz10 := hn1.size
              replace Hm := Lib.hid (Hm.out.new hn1)
              replace Ha := Lib.hid (Ha.out.new hn1)
              have Hc := Lib.hid ho1
              clear hK K ho1 hn1 hf1
              try simp only [Act.put, List.setIfInBounds_toArray, List.set_cons_zero, List.set_cons_succ]
              refine held_take 5 (some 79) rfl rfl (by kernel_rfl) (by kernel_rfl) (by kernel_rfl) (fun _ _ _ h => h) rfl hHeld10 (v := .agg #[.slice a1 l1 c1, .slice (some ⟨gm, 0, none⟩) k k]) (fun w' hS => by skip; go_simp; try with_reducible rfl) ?_
              try simp only [Act.put, List.setIfInBounds_toArray, List.set_cons_zero, List.set_cons_succ]
              refine held_only 7 (by kernel_rfl) rfl rfl (fun K hK => ?_)
              obtain ⟨e0, e1, e2, e3⟩ := Ha.out.cells
              go_simp
              obtain ⟨x0, x1, x2⟩ := madePut wz wn10 ga gm (.slice a1 l1 c1) k goal hHeld10 Ha.out Hc.out Hm.out (by have := HBa.out; have := hHeld.size; omega) (fun g hg => by have := HBc.out g hg; have := hHeld.size; omega) (by have := HBm.out; have := hHeld.size; omega) (fun g hg => by have := HBc.out g hg; have := HBm.out; omega) (fun g hg => by have := HBc.out g hg; have := HBa.out; omega) (by have := HBa.out; have := HBm.out; omega)
              refine hK.out _ _ x1 (fun hHeldE => ?_)
              clear hK K e0 e1 e2 e3
              refine wpAnyH_done (by kernel_rfl) ?_ _
              go_wp2_with fail
              go_meet
              exact ⟨ga, _, _, rfl, x0⟩
            exact AllReadyH.nil
          exact AllReadyH.nil
        refine ready_cons 6 rfl rfl (fun K hK => ?_) ?_
        · skip
          go_simp
          have hn1 : New wd (wd.alloc (.cells #[.slice none 0 0, .slice none 0 0] 118)) := New.alloc _ _
          have ho1 := Blk2.alloc wd (.slice none 0 0) (.slice none 0 0) 118
          have hsm : wd.heap.size < (wd.alloc (.cells #[.slice none 0 0, .slice none 0 0] 118)).heap.size := by rw [World.size_alloc]; omega
          obtain ⟨wn11, hW2⟩ : ∃ w' : World, w' = wd.alloc (.cells #[.slice none 0 0, .slice none 0 0] 118) := ⟨_, rfl⟩
          rw [← hW2] at hn1 ho1 hsm ⊢
          obtain ⟨ga, hga⟩ : ∃ g, g = wd.heap.size := ⟨_, rfl⟩
          rw [← hga] at ho1 ⊢
          refine hK.out _ _ (hHeld.trans hn1) (fun hHeld11 => ?_)
          have HBa : Hid (wd.heap.size ≤ ga ∧ ga < wn11.heap.size) := by show _ ∧ _; omega
          clear hW2 hga hsm
          have hsz11 := hn1.size
          have Ha := Lib.hid ho1
          clear hK K ho1 hn1
          try simp only [Act.put, List.setIfInBounds_toArray, List.set_cons_zero, List.set_cons_succ]
          refine wpAnyH_ready (rs := [1, 4]) (by kernel_rfl) (by simp) ?_
          refine ready_cons 1 rfl rfl (fun K hK => ?_) ?_
          · skip
            go_simp
            refine (clone_any _ goal _ (HGZ.out.new hHeld11)).mono ?_
            rintro e wn12 ⟨u1, rfl, ho1, hf1, hn1⟩
            obtain ⟨a1, l1, c1, rfl, _, _, _⟩ := ho1.opened hmidx
            refine hK.out _ _ (hHeld11.trans hn1) (fun hHeld12 => ?_)
            have HBc := Lib.hid (fun g (hg : (Value.slice a1 l1 c1).ownBlock = some g) => And.intro (hf1 g hg) (ho1.lt hg))
            have hsz12 := hn1.size
            replace Ha := Lib.hid (Ha.out.new hn1)
            have Hc := Lib.hid ho1
            clear hK K ho1 hn1 hf1
            try simp only [Act.put, List.setIfInBounds_toArray, List.set_cons_zero, List.set_cons_succ]
            refine wpAnyH_ready (rs := [4]) (by kernel_rfl) (by simp) ?_
            refine ready_cons 4 rfl rfl (fun K hK => ?_) ?_
            · skip
              have hmk := HMK.out
              go_simp
              clear hmk
              have hn1 : New wn12 (wn12.alloc (.cells cs 3)) := New.alloc _ _
              have ho1 : Own (wn12.alloc (.cells cs 3)) 3 (.slice (some ⟨wn12.heap.size, 0, none⟩) k k) ((List.replicate k 0).map (Value.int .i64)) := HMKO.out wn12
              have hsm : wn12.heap.size < (wn12.alloc (.cells cs 3)).heap.size := by rw [World.size_alloc]; omega
              obtain ⟨wn13, hW2⟩ : ∃ w' : World, w' = wn12.alloc (.cells cs 3) := ⟨_, rfl⟩
              rw [← hW2] at hn1 ho1 hsm ⊢
              obtain ⟨gm, hgm⟩ : ∃ g, g = wn12.heap.size := ⟨_, rfl⟩
              rw [← hgm] at ho1 ⊢
              refine hK.out _ _ (hHeld12.trans hn1) (fun hHeld13 => ?_)
              have HBm : Hid (wn12.heap.size ≤ gm ∧ gm < wn13.heap.size) := by show _ ∧ _; omega
              clear hW2 hgm hsm
              have hsz13 := hn1.size
              replace Ha := Lib.hid (Ha.out.new hn1)
              replace Hc := Lib.hid (Hc.out.new hn1)
              have Hm := Lib.hid ho1
              clear hK K ho1 hn1
              try simp only [Act.put, List.setIfInBounds_toArray, List.set_cons_zero, List.set_cons_succ]
              refine held_take 5 (some 79) rfl rfl (by kernel_rfl) (by kernel_rfl) (by kernel_rfl) (fun _ _ _ h => h) rfl hHeld13 (v := .agg #[.slice a1 l1 c1, .slice (some ⟨gm, 0, none⟩) k k]) (fun w' hS => by skip; go_simp; try with_reducible rfl) ?_
              try simp only [Act.put, List.setIfInBounds_toArray, List.set_cons_zero, List.set_cons_succ]
              refine held_only 7 (by kernel_rfl) rfl rfl (fun K hK => ?_)
              obtain ⟨e0, e1, e2, e3⟩ := Ha.out.cells
              go_simp
              obtain ⟨x0, x1, x2⟩ := madePut wz wn13 ga gm (.slice a1 l1 c1) k goal hHeld13 Ha.out Hc.out Hm.out (by have := HBa.out; have := hHeld.size; omega) (fun g hg => by have := HBc.out g hg; have := hHeld.size; omega) (by have := HBm.out; have := hHeld.size; omega) (fun g hg => by have := HBc.out g hg; have := HBm.out; omega) (fun g hg => by have := HBc.out g hg; have := HBa.out; omega) (by have := HBa.out; have := HBm.out; omega)
              refine hK.out _ _ x1 (fun hHeldE => ?_)
              clear hK K e0 e1 e2 e3
              refine wpAnyH_done (by kernel_rfl) ?_ _
              go_wp2_with fail
              go_meet
              exact ⟨ga, _, _, rfl, x0⟩
            exact AllReadyH.nil
          refine ready_cons 4 rfl rfl (fun K hK => ?_) ?_
          · skip
            have hmk := HMK.out
            go_simp
            clear hmk
            have hn1 : New wn11 (wn11.alloc (.cells cs 3)) := New.alloc _ _
            have ho1 : Own (wn11.alloc (.cells cs 3)) 3 (.slice (some ⟨wn11.heap.size, 0, none⟩) k k) ((List.replicate k 0).map (Value.int .i64)) := HMKO.out wn11
            have hsm : wn11.heap.size < (wn11.alloc (.cells cs 3)).heap.size := by rw [World.size_alloc]; omega
            obtain ⟨wn14, hW2⟩ : ∃ w' : World, w' = wn11.alloc (.cells cs 3) := ⟨_, rfl⟩
            rw [← hW2] at hn1 ho1 hsm ⊢
            obtain ⟨gm, hgm⟩ : ∃ g, g = wn11.heap.size := ⟨_, rfl⟩
            rw [← hgm] at ho1 ⊢
            refine hK.out _ _ (hHeld11.trans hn1) (fun hHeld14 => ?_)
            have HBm : Hid (wn11.heap.size ≤ gm ∧ gm < wn14.heap.size) := by show _ ∧ _; omega
            clear hW2 hgm hsm
            have hsz14 := hn1.size
            replace Ha := Lib.hid (Ha.out.new hn1)
            have Hm := Lib.hid ho1
            clear hK K ho1 hn1
            try simp only [Act.put, List.setIfInBounds_toArray, List.set_cons_zero, List.set_cons_succ]
            refine wpAnyH_ready (rs := [1]) (by kernel_rfl) (by simp) ?_
            refine ready_cons 1 rfl rfl (fun K hK => ?_) ?_
            · skip
              go_simp
              refine (clone_any _ goal _ (HGZ.out.new hHeld14)).mono ?_
              rintro e wn15 ⟨u1, rfl, ho1, hf1, hn1⟩
              obtain ⟨a1, l1, c1, rfl, _, _, _⟩ := ho1.opened hmidx
              refine hK.out _ _ (hHeld14.trans hn1) (fun hHeld15 => ?_)
              have HBc := Lib.hid (fun g (hg : (Value.slice a1 l1 c1).ownBlock = some g) => And.intro (hf1 g hg) (ho1.lt hg))
              have hsz15 := hn1.size
              replace Ha := Lib.hid (Ha.out.new hn1)
              replace Hm := Lib.hid (Hm.out.new hn1)
              have Hc := Lib.hid ho1
              clear hK K ho1 hn1 hf1
              try simp only [Act.put, List.setIfInBounds_toArray, List.set_cons_zero, List.set_cons_succ]
              refine held_take 5 (some 79) rfl rfl (by kernel_rfl) (by kernel_rfl) (by kernel_rfl) (fun _ _ _ h => h) rfl hHeld15 (v := .agg #[.slice a1 l1 c1, .slice (some ⟨gm, 0, none⟩) k k]) (fun w' hS => by skip; go_simp; try with_reducible rfl) ?_
              try simp only [Act.put, List.setIfInBounds_toArray, List.set_cons_zero, List.set_cons_succ]
              refine held_only 7 (by kernel_rfl) rfl rfl (fun K hK => ?_)
              obtain ⟨e0, e1, e2, e3⟩ := Ha.out.cells
              go_simp
              obtain ⟨x0, x1, x2⟩ := madePut wz wn15 ga gm (.slice a1 l1 c1) k goal hHeld15 Ha.out Hc.out Hm.out (by have := HBa.out; have := hHeld.size; omega) (fun g hg => by have := HBc.out g hg; have := hHeld.size; omega) (by have := HBm.out; have := hHeld.size; omega) (fun g hg => by have := HBc.out g hg; have := HBm.out; omega) (fun g hg => by have := HBc.out g hg; have := HBa.out; omega) (by have := HBa.out; have := HBm.out; omega)
              refine hK.out _ _ x1 (fun hHeldE => ?_)
              clear hK K e0 e1 e2 e3
              refine wpAnyH_done (by kernel_rfl) ?_ _
              go_wp2_with fail
              go_meet
              exact ⟨ga, _, _, rfl, x0⟩
            exact AllReadyH.nil
          exact AllReadyH.nil
        exact AllReadyH.nil
      case rest =>
      obtain ⟨g, vr, vf, rfl, HMI⟩ := hcut
      have hmi := HMI.out
      obtain ⟨ar, lr, cr, rfl, HLR, hlr, _⟩ := hmi.row.opened (by rw [List.length_map, HGG.out.1]; unfold Mid; omega)
      obtain ⟨af, lf, cf, rfl, HLF, hlf, _⟩ := hmi.fac.opened (by simp; unfold Mid; omega)
      have hlfm : k = lf := by rw [HLF.out]; simp
      subst hlfm
      obtain ⟨d0, d1, _, _⟩ := hmi.blk.cells
      have hbk := HL.out.2.2.1.new hmi.new
      have hbp := HL.out.2.2.2.1.new hmi.new
      have hsb : w.heap.size + 1 + 1 < wz.heap.size := HL.out.2.2.1.lt
      have hkr : k = rows.length := HN.out
      have HKR := Lib.hid hkr
      have hfac := hmi.fac
      have hL1 := HL.out.1
      rw [hkr] at hL1
      have HL1 := Lib.hid hL1
      have HFAC : Hid (Own wc 3 (.slice af k cf) ((List.replicate rows.length 0).map (Value.int .i64))) := by show Own _ _ _ _; rw [← hkr]; exact hfac
      have HAP := Lib.hid (And.intro hmi.old hmi.apart)
      have HNW := Lib.hid hmi.new
      have HROW := Lib.hid hmi.row
      have HBL := Lib.hid (And.intro hmi.blk (And.intro hbk hbp))
      have hz0 : GoodRow q rows.length (List.replicate rows.length 0) := ⟨by simp, fun i hi => by rw [gi_replicate]; omega⟩
      have HZ0 := Lib.hid hz0
      clear hmi hbk hbp hkr hfac hL1 hz0 HMI
      go_wp2_with fail
      refine (less_any q HQ.out n rows.length rows K (goal, List.replicate rows.length 0) wz.heap.size _ _ vk _ _ pr _ HL1.out (HL.out.2.1.new HNW.out) HGG.out HZ0.out HROW.out HFAC.out HAP.out.1.2.1 HAP.out.1.2.2 HAP.out.2.1 HBL.out.2.1.cells.1 HBL.out.2.2.cells.1 (by omega) (by omega) hn7 (by omega) (by omega)).mono ?_
      rintro e w3 ⟨rfl, hr3, hf3, hc3⟩
      have hless := HL1.out.less (p := q) (n := n) (x := (goal, List.replicate rows.length 0)) (by omega) HGG.out HZ0.out
      obtain ⟨y, hy⟩ : ∃ y, y = lessF q K (goal, List.replicate rows.length 0) := ⟨_, rfl⟩
      rw [← hy] at hr3 hf3 hless
      have hsol := impl_sol HQ.out HL1.out hless
      have HLR := Lib.hid hless
      have HSOL := Lib.hid hsol
      have hmidr : Mid y.1.length := hless.good.1.mid (by omega)
      have hB3 : ∀ h, ((Value.slice ar lr cr).ownBlock = some h ∨ (Value.slice af k cf).ownBlock = some h) → wz.heap.size ≤ h := fun h hg => by
        rcases hg with c | c
        · exact HAP.out.1.2.1 h c
        · exact HAP.out.1.2.2 h c
      have hn3 : New wz w3 := HNW.out.then hc3 hB3
      have hblk3 := HBL.out.1.chg hc3 (fun h => by rcases h with c | c; (exact HAP.out.2.2.1 _ c rfl); (exact HAP.out.2.2.2 _ c rfl))
      have hbp3 := HBL.out.2.2.chg hc3 (fun h => by have := hB3 _ h; omega)
      have H3 := Lib.hid (And.intro hn3 (And.intro hblk3 hbp3))
      have HF3 := Lib.hid hf3
      have HIR := Lib.hid (hr3.isI hmidr)
      obtain ⟨d0, d1, _, _⟩ := hblk3.cells
      clear hless hr3 hf3 hc3 hB3 hn3 hblk3 hbp3 hmidr hy hsol
      go_wp2_with fail
      refine (lead_any _ _ _ HIR.out).mono ?_
      rintro e w' ⟨rfl, rfl⟩
      by_cases hpos : 0 ≤ leadZ y.1
      · have hnone := HSOL.out
        rw [if_pos hpos] at hnone
        have HNONE := Lib.hid hnone
        obtain ⟨L, hL⟩ : ∃ L : Nat, leadZ y.1 = L := ⟨(leadZ y.1).toNat, by omega⟩
        rw [hL]
        clear hnone hpos hL
        go_wp2_with fail
        go_ret2
        exact ⟨_, [], false, rfl, Own.nil _ _, (fun g hg => by simp [Value.ownBlock] at hg), ⟨(fun h => by cases h), fun _ => ⟨rfl, HNONE.out⟩⟩, HL.out.2.2.2.2.1.trans H3.out.1⟩
      · have hm1 : leadZ y.1 = -1 := by have : -1 ≤ leadZ y.1 := (fiZ_ge nzB y.1).1; omega
        have hsome := HSOL.out
        rw [if_neg hpos] at hsome
        have HSOME := Lib.hid hsome
        rw [hm1]
        clear hm1 hpos hsome
        go_wp2_with fail
        have hfl : y.2.length = k := by rw [HLR.out.good.2.1]; exact HKR.out.symm
        have HFL := Lib.hid hfl
        clear hfl
        go_loopg [90] k (fun gk t wr => ∃ j : Nat, t = .int .i64 j ∧ j ≤ k ∧ gk = k - j ∧ Hid (Own wr 3 (.slice af k cf) ((negTo q y.2 k j).map (Value.int .i64)) ∧ Chg (fun h => (Value.slice af k cf).ownBlock = some h) w3 wr))
        case atStart => exact ⟨0, rfl, Nat.zero_le _, rfl, by have := negTo_zero q y.2; rw [HFL.out] at this; rw [this]; exact HF3.out, Chg.refl _ _⟩
        case round =>
          obtain ⟨j, rfl, hj, hgj, HJ⟩ := hrel
          obtain ⟨wx, hwx⟩ : ∃ wx : World, wx = wr := ⟨_, rfl⟩
          rw [← hwx] at HJ
          rw [← hwx]
          clear hwx
          have hBF : ∀ h, (Value.slice af k cf).ownBlock = some h → wz.heap.size ≤ h ∧ h ≠ g := fun h hg => ⟨HAP.out.1.2.2 h hg, HAP.out.2.2.2 h hg⟩
          have hb := H3.out.2.1.chg HJ.out.2 (fun e => (hBF _ e).2 rfl)
          have hp := H3.out.2.2.chg HJ.out.2 (fun e => by have := (hBF _ e).1; omega)
          obtain ⟨e0, e1, _, _⟩ := hb.cells
          obtain ⟨p0, _⟩ := hp.cells
          by_cases hjk : j < k
          · have hjl : j < (negTo q y.2 k j).length := by unfold negTo; rw [tab_length]; exact hjk
            obtain ⟨gf, rfl⟩ := HJ.out.1.head (i := j) (by rw [List.length_map]; exact hjl)
            obtain ⟨cj, fj⟩ := HJ.out.1.cell (i := j) (by rw [List.length_map]; exact hjl)
            have hval : gi (negTo q y.2 k j) j = gi y.2 j := by unfold negTo; rw [tab_get hjk, if_neg (by omega)]
            rw [gv_map_int hjl, hval] at cj
            obtain ⟨x, hx⟩ : ∃ x, x = gi y.2 j := ⟨_, rfl⟩
            rw [← hx] at cj
            have HX := Lib.hid hx
            have hx1 := HLR.out.good.2.2 j (by rw [← HKR.out]; exact hjk)
            rw [← hx] at hx1
            have hm0 := Int.emod_nonneg (-x) (show (q : Int) ≠ 0 by omega)
            have hm1 := Int.emod_lt_of_pos (-x) (show (0 : Int) < q by omega)
            clear hx hval hjl
            go_wp2_with fail
            refine wp_region_held_drew (S := fun w' => w'.cell? ⟨g, 1, none⟩ = some (Value.slice (some ⟨gf, 0, none⟩) k cf) ∧ w'.cell? ⟨w.heap.size, 0, none⟩ = some (.int .i64 q)) (by kernel_rfl) ⟨e1, p0⟩ (fun hHeld => ?_)
            refine held_take 0 (some 95) rfl rfl (by kernel_rfl) (by kernel_rfl) (by kernel_rfl) (fun _ _ _ h => h) rfl hHeld (v := ?_) (fun w' hS => by obtain ⟨t1, t2⟩ := hS; go_simp; first | done | (with_reducible rfl) | exact IntWalk.i64_in _ (by omega)) ?_
            try simp only [Act.put, List.setIfInBounds_toArray, List.set_cons_zero, List.set_cons_succ]
            refine held_take 1 (some 96) rfl rfl (by kernel_rfl) (by kernel_rfl) (by kernel_rfl) (fun _ _ _ h => h) rfl hHeld (v := Value.slice (some ⟨gf, 0, none⟩) k cf) (fun w' hS => by obtain ⟨t1, t2⟩ := hS; go_simp; first | done | (with_reducible rfl) | exact IntWalk.i64_in _ (by omega)) ?_
            try simp only [Act.put, List.setIfInBounds_toArray, List.set_cons_zero, List.set_cons_succ]
            refine held_take 2 (some 97) rfl rfl (by kernel_rfl) (by kernel_rfl) (by kernel_rfl) (fun _ _ _ h => h) rfl hHeld (v := ?_) (fun w' hS => by obtain ⟨t1, t2⟩ := hS; go_simp; first | done | (with_reducible rfl) | exact IntWalk.i64_in _ (by omega)) ?_
            try simp only [Act.put, List.setIfInBounds_toArray, List.set_cons_zero, List.set_cons_succ]
            refine held_take 3 (some 98) rfl rfl (by kernel_rfl) (by kernel_rfl) (by kernel_rfl) (fun _ _ _ h => h) rfl hHeld (v := .int .i64 q) (fun w' hS => by obtain ⟨t1, t2⟩ := hS; go_simp; first | done | (with_reducible rfl) | exact IntWalk.i64_in _ (by omega)) ?_
            try simp only [Act.put, List.setIfInBounds_toArray, List.set_cons_zero, List.set_cons_succ]
            refine held_take 4 (some 99) rfl rfl (by kernel_rfl) (by kernel_rfl) (by kernel_rfl) (fun _ _ _ h => h) rfl hHeld (v := ?_) (fun w' hS => by obtain ⟨t1, t2⟩ := hS; go_simp; first | done | (with_reducible rfl) | exact IntWalk.i64_in _ (by omega)) ?_
            try simp only [Act.put, List.setIfInBounds_toArray, List.set_cons_zero, List.set_cons_succ]
            refine held_take 5 (some 100) rfl rfl (by kernel_rfl) (by kernel_rfl) (by kernel_rfl) (fun _ _ _ h => h) rfl hHeld (v := .int .i64 (-x)) (fun w' hS => by obtain ⟨t1, t2⟩ := hS; go_simp; first | done | (with_reducible rfl) | exact IntWalk.i64_in _ (by omega)) ?_
            try simp only [Act.put, List.setIfInBounds_toArray, List.set_cons_zero, List.set_cons_succ]
            refine held_only 6 (by kernel_rfl) rfl rfl (fun Kc hKc => ?_)
            go_simp
            refine (rest_any _ _ _ (by omega) (by omega)).mono ?_
            rintro e w' ⟨rfl, rfl⟩
            refine hKc.out _ _ hHeld (fun hHeld2 => ?_)
            clear hKc Kc hHeld2
            refine held_take 7 (some 102) rfl rfl (by kernel_rfl) (by kernel_rfl) (by kernel_rfl) (fun _ _ _ h => h) rfl hHeld (v := .pointer (some ⟨gf, j, none⟩)) (fun w' hS => by obtain ⟨t1, t2⟩ := hS; go_simp; first | done | (with_reducible rfl) | exact IntWalk.i64_in _ (by omega)) ?_
            try simp only [Act.put, List.setIfInBounds_toArray, List.set_cons_zero, List.set_cons_succ]
            refine held_only 8 (by kernel_rfl) rfl rfl (fun Kc hKc => ?_)
            go_simp
            have hst := HJ.out.1.set j (.int .i64 ((-x) % (q : Int)))
            rw [set_map_int, negTo, tab_set (g := fun i => if i < j + 1 then (-(gi y.2 i)) % (q : Int) else gi y.2 i) (fun _ => by rw [if_pos (by omega), ← HX.out]) (fun i hi hne => by
              by_cases c : i < j
              · rw [if_pos c, if_pos (show i < j + 1 by omega)]
              · rw [if_neg c, if_neg (show ¬ i < j + 1 by omega)])] at hst
            have hset : Chg (· = gf) wx (wx.setCell ⟨gf, j, none⟩ (.int .i64 ((-x) % (q : Int)))) := Chg.setCell wx ⟨gf, j, none⟩ _
            have hne1 : ¬ g = gf := fun e => (hBF gf rfl).2 e.symm
            have hne2 : ¬ w.heap.size = gf := fun e => by have := (hBF gf rfl).1; omega
            have hdr : New (wx.setCell ⟨gf, j, none⟩ (.int .i64 ((-x) % (q : Int)))) (wx.setCell ⟨gf, j, none⟩ (.int .i64 ((-x) % (q : Int)))).drew := New.drew _
            have HE := Lib.hid (And.intro (hst.new hdr) (Chg.trans HJ.out.2 (Chg.trans hset hdr (U := fun h => (Value.slice (some ⟨gf, 0, none⟩) k cf).ownBlock = some h) (fun i _ hi => by rw [hi]; rfl) (fun _ _ x => x.elim)) (U := fun h => (Value.slice (some ⟨gf, 0, none⟩) k cf).ownBlock = some h) (fun _ _ x => x) (fun _ _ x => x)))
            have c1 := hdr.cellNew (hset.cell hHeld.1 hne1)
            have c2 := hdr.cellNew (hset.cell hHeld.2 hne2)
            refine hKc.out _ _ ⟨c1, c2⟩ (fun hHeldE => ?_)
            clear hKc Kc hst hset hdr c1 c2
            refine wpAnyH_done (by kernel_rfl) ?_ _
            go_wp2_with fail
            go_roundg (k - (j + 1))
            case measure => go_light; omega
            case rel =>
              go_light
              exact ⟨j + 1, by go_num, by omega, rfl, HE.out⟩
          · obtain rfl : j = k := by omega
            have hfin : negTo q y.2 j j = negF q y.2 := by have := negTo_all q y.2; rw [HFL.out] at this; exact this
            have hown := HJ.out.1
            rw [hfin] at hown
            have HOWN := Lib.hid (And.intro hown (H3.out.1.then HJ.out.2 (fun h hg => (hBF h hg).1)))
            have HBF := Lib.hid hBF
            clear hown hfin hBF
            go_wp2_with fail
            go_ret2
            exact ⟨_, negF q y.2, true, rfl, HOWN.out.1, (fun h hg => by have := (HBF.out h hg).1; omega), ⟨fun _ => HSOME.out, (fun h => by cases h)⟩, HL.out.2.2.2.2.1.trans HOWN.out.2⟩
end Go.Proofs.Ytahgjfmdafhedaa

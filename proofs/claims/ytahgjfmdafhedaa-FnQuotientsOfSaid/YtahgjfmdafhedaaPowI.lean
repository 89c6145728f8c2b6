/- PowersOf of the program. -/
import Derived.Laws.CopyRow
import Derived.Deep.CutBlock
import Derived.Deep.DeepCutAuto
import Derived.Test.YtahgjfmdafhedaaPowS
import Derived.Test.YtahgjfmdafhedaaLeaf
namespace Go.Proofs.Ytahgjfmdafhedaa
open Go.RowKit Mat
set_option linter.unusedVariables false

theorem mul_one (n : Nat) (w : World) (h1 : 1 ≤ n) (hn : n ≤ 7) :
    Calls Try.prog 83 #[.int .u64 1, .int .u64 n] w fun e w' => e = .returned (.tuple #[.int .u64 0, .int .u64 n]) ∧ w = w' := by
  have hand : bits BinOp.and IntKind.u64 1 4294967295 = 1 := by decide +kernel
  have h2 : ∀ n : Nat, n < 8 → bits BinOp.and IntKind.u64 (n : Int) 4294967295 = (n : Int) ∧ (n : Int) / 4294967296 = 0 := by decide +kernel
  obtain ⟨h3, h4⟩ := h2 n (by omega)
  have h5 : bits BinOp.and IntKind.u64 0 4294967295 = 0 := by decide +kernel
  clear h2
  go_enter Try.func83, Try.ntmps83
  go_wp2
  go_ret2
  exact ⟨rfl, rfl⟩

theorem splice_take (L cs : List Value) (off n : Nat) (h : off + cs.length ≤ n) (hn : n ≤ L.length) : (L.take off ++ cs ++ L.drop (off + cs.length)).take n = (L.take n).take off ++ cs ++ (L.take n).drop (off + cs.length) := by
  apply List.ext_getElem?
  intro i
  simp only [List.getElem?_take, List.getElem?_append, List.length_append, List.length_take, List.getElem?_drop]
  have e1 : min off L.length = off := by omega
  have e2 : min off (min n L.length) = off := by omega
  rw [e1, e2]
  by_cases c : i < n
  · rw [if_pos c]
    by_cases c1 : i < off + cs.length
    · rw [if_pos c1, if_pos c1]
      by_cases c2 : i < off
      · simp [c2, c]
      · simp [c2]
    · rw [if_neg c1, if_neg c1, if_pos (by omega)]
  · rw [if_neg c, if_neg (by omega), if_neg (by omega)]

theorem chg_setRow (w : World) (g : Nat) (cs : Array Value) : Chg (· = g) w (w.setRow g cs) :=
  ⟨rfl, rfl, rfl, by simp [World.setRow], fun k _ hk => by simp only [World.setRow, Array.getElem?_modify]; rw [if_neg (fun e => hk e.symm)]⟩

/-- copy into a slice of one's own. -/
theorem run_copyO {P : Program} {w : World} {ty : TypeId} {dT sT e : TypeId} {z : Value} (T : OneTy P dT e z) {g n cap : Nat} {xs : List Value} (hv : Own w e (.slice (some ⟨g, 0, none⟩) n cap) xs)
    (off dLen dCap : Nat) (ad : Addr) (sLen sCap : Nat) (cs : List Value) (hn : cs.length = min sLen dLen) (hsrc : ∀ j v, cs[j]? = some v → w.cell? (ad.add j) = some v)
    (hfit : off + cs.length ≤ xs.length) (h1 : ∀ v ∈ cs, v.oneCell' = true) :
    ∃ w', (Builtin.copy_ #[dT, sT] ty #[.slice (some ⟨g, off, none⟩) dLen dCap, .slice (some ad) sLen sCap]).run P w = .ok (goInt cs.length) w' ∧ Own w' e (.slice (some ⟨g, 0, none⟩) n cap) (xs.take off ++ cs ++ xs.drop (off + cs.length)) ∧ Chg (· = g) w w' := by
  obtain ⟨i, ht, hi, hz, hs, hby, hzc⟩ := T
  rcases hv with ⟨h, _⟩ | ⟨g', cap', cur, h, hg, ha, hb, hc, hx⟩
  · cases h
  · cases h
    have hlen : (xs.take off ++ cs ++ xs.drop (off + cs.length)).length = xs.length := by
      simp only [List.length_append, List.length_take, List.length_drop]; omega
    refine ⟨_, run_copy_row (P := P) w dT sT ty e g off dLen dCap ad sLen sCap cur e cs ht (by rw [hi]; simp [hs]) hg hn hsrc (by omega) h1, .inr ⟨g, cap, _, by rw [hlen], setRow_heap w g cur _ e (0, 0) hg, by rw [hlen]; exact ha, hb, ?_, ?_⟩, chg_setRow _ _ _⟩
    · simp; omega
    · rw [hlen]
      show (cur.toList.take off ++ cs ++ cur.toList.drop (off + cs.length)).take xs.length = _
      rw [splice_take _ _ _ _ hfit (by have := @Array.length_toList _ cur; omega), hx]
theorem wpList_copyO {P : Program} {w : World} {ops : Array Oper} {rest : List Oper} {o : Oper} {a : Act} {Q : Exit → Act → World → Prop} (hgd : o.guard = none) (d s : Operand) (dT sT : TypeId)
    (ho : o.op = .call { callee := .builtin .copy, args := #[d, s], argTypes := #[dT, sT] }) {e : TypeId} {z : Value} (T : OneTy P dT e z) {g n cap : Nat} {xs : List Value} (hv : Own w e (.slice (some ⟨g, 0, none⟩) n cap) xs)
    (off dLen dCap : Nat) (hd : a.eval d = .slice (some ⟨g, off, none⟩) dLen dCap) (ad : Addr) (sLen sCap : Nat) (hs : a.eval s = .slice (some ad) sLen sCap) (cs : List Value) (hn : cs.length = min sLen dLen) (hsrc : ∀ j v, cs[j]? = some v → w.cell? (ad.add j) = some v)
    (hfit : off + cs.length ≤ xs.length) (h1 : ∀ v ∈ cs, v.oneCell' = true)
    (h : ∀ w', Own w' e (.slice (some ⟨g, 0, none⟩) n cap) (xs.take off ++ cs ++ xs.drop (off + cs.length)) → Chg (· = g) w w' → wpList P ops Q rest (a.put o.dst (goInt cs.length)) w') :
    wpList P ops Q (o :: rest) a w := by
  refine wpList_plain hgd fun K hK => ?_
  obtain ⟨w', hr, h2, h3⟩ := run_copyO (P := P) (ty := o.type) (sT := sT) T hv off dLen dCap ad sLen sCap cs hn hsrc hfit h1
  unfold Oper.wp execOp
  simp only [ho, resolve, invoke, builtin, Sem.run_bind, Sem.run_pure, Result.andThen_ok, List.map_toArray, List.map_cons, List.map_nil, hs, hd, hr]
  exact hK _ _ (h w' h2 h3)
theorem step_copyO {P : Program} {ops : Array Oper} {o : Oper} {a : Act} {w : World} {K : Act → World → Prop} {Q : Exit → Act → World → Prop} {E : Prop} (hgd : o.guard = none) (d s : Operand) (dT sT : TypeId)
    (ho : o.op = .call { callee := .builtin .copy, args := #[d, s], argTypes := #[dT, sT] }) {e : TypeId} {z : Value} (T : OneTy P dT e z) {g n cap : Nat} {xs : List Value} (hv : Own w e (.slice (some ⟨g, 0, none⟩) n cap) xs)
    (off dLen dCap : Nat) (hd : a.eval d = .slice (some ⟨g, off, none⟩) dLen dCap) (ad : Addr) (sLen sCap : Nat) (hs : a.eval s = .slice (some ad) sLen sCap) (cs : List Value) (hn : cs.length = min sLen dLen) (hsrc : ∀ j v, cs[j]? = some v → w.cell? (ad.add j) = some v)
    (hfit : off + cs.length ≤ xs.length) (h1 : ∀ v ∈ cs, v.oneCell' = true)
    (h : ∀ w', Own w' e (.slice (some ⟨g, 0, none⟩) n cap) (xs.take off ++ cs ++ xs.drop (off + cs.length)) → Chg (· = g) w w' → K (a.put o.dst (goInt cs.length)) w') :
    if Region.wanted o (yielded ops a.tmps) = true then Oper.wp P o a w K Q else E := by
  have hw : Region.wanted o (yielded ops a.tmps) = true := by simp [Region.wanted, hgd]
  rw [if_pos hw]
  obtain ⟨w', hr, h2, h3⟩ := run_copyO (P := P) (ty := o.type) (sT := sT) T hv off dLen dCap ad sLen sCap cs hn hsrc hfit h1
  unfold Oper.wp execOp
  simp only [ho, resolve, invoke, builtin, Sem.run_bind, Sem.run_pure, Result.andThen_ok, List.map_toArray, List.map_cons, List.map_nil, hs, hd, hr]
  exact h w' h2 h3

/-- Ones, then zeros. -/
def onesZ (n m : Nat) : List Int := List.replicate m 1 ++ List.replicate (n - m) 0
theorem wp_copyO {P : Program} {o : Oper} {a : Act} {w w' : World} {K : Act → World → Prop} {Q : Exit → Act → World → Prop} {d s : Operand} {dT sT : TypeId} {u v x : Value}
    (ho : o.op = .call { callee := .builtin .copy, args := #[d, s], argTypes := #[dT, sT] }) (hd : a.eval d = u) (hs : a.eval s = v) (hr : (Builtin.copy_ #[dT, sT] o.type #[u, v]).run P w = .ok x w') (t : Option Tmp) (ht : o.dst = t) (h : K (a.put t x) w') : Oper.wp P o a w K Q := by
  subst ht
  unfold Oper.wp execOp
  simp only [ho, resolve, invoke, builtin, Sem.run_bind, Sem.run_pure, Result.andThen_ok, List.map_toArray, List.map_cons, List.map_nil, hs, hd, hr]
  exact h
theorem ones_step {n m r : Nat} (h1 : 1 ≤ m) (h : m + r ≤ n) : ((onesZ n m).map (Value.int .i64)).take m ++ List.replicate r (.int .i64 1) ++ ((onesZ n m).map (Value.int .i64)).drop (m + (List.replicate r (Value.int .i64 1)).length) = (onesZ n (m + r)).map (Value.int .i64) := by
  simp only [onesZ, List.map_append, List.map_replicate, List.length_replicate]
  rw [List.take_left' List.length_replicate, ← List.drop_drop, List.drop_left' List.length_replicate, List.drop_replicate, List.replicate_append_replicate, show n - m - r = n - (m + r) by omega]
set_option maxRecDepth 100000 in
set_option maxHeartbeats 2000000 in
theorem repeat_any (n : Nat) (v : Value) (w : World) (hx : IsI w v [1]) (h1 : 1 ≤ n) (hn : n ≤ 7) :
    Calls Try.prog 39 #[v, .int .i64 n] w fun e w' => ∃ u, e = .returned u ∧ Own w' 3 u ((List.replicate n (1 : Int)).map (Value.int .i64)) ∧ From w.heap.size u ∧ New w w' := by
  obtain ⟨ao, l, c, rfl, HL, hl⟩ := hx.shape
  obtain rfl : l = 1 := HL.out
  obtain ⟨b, o, rfl, ck⟩ := hx.at (i := 0) (by omega)
  rw [Nat.add_zero, show gi [1] 0 = (1 : Int) from rfl] at ck
  have CK := Lib.hid ck
  clear hx ck
  go_enter Try.func39, Try.ntmps39
  go_upto_region 7 with (first
    | (go_at_call 83; refine (mul_one n _ h1 hn).mono ?_; rintro e w' ⟨rfl, rfl⟩)
    | (at_make; refine wpList_mk rfl _ _ _ rfl tyInt _ _ _ _ n n rfl rfl rfl rfl (Nat.le_refl _) (by omega) ?_; intro v5 w5 hv5 ho5 hn5 hs5; subst hv5; have H5 := Lib.hid (And.intro ho5 (And.intro hn5 hs5)); clear ho5 hn5 hs5)
    )
  have hr1 : (List.replicate n (Value.int .i64 0)).take 0 ++ [Value.int .i64 1] ++ (List.replicate n (Value.int .i64 0)).drop (0 + [Value.int .i64 1].length) = (onesZ n 1).map (Value.int .i64) := by
    simp [onesZ]
  have HR1 := Lib.hid hr1
  clear hr1
  go_wp2_with (refine wpList_copyO rfl (.tmp 31) (.tmp 32) _ _ rfl tyInt H5.out.1 0 n n rfl ⟨b, o, none⟩ 1 c rfl [.int .i64 1] (by simp; omega) (fun j u hu => by cases j with | zero => (simp at hu; subst hu; exact H5.out.2.1.cellNew CK.out) | succ j => simp at hu) (by simp; omega) (by simp [Value.oneCell']) ?_; intro w6 ho6 hc6; rw [HR1.out] at ho6; have H6 := Lib.hid (And.intro ho6 hc6); clear ho6 hc6)
  go_loopw [8] (fun t8 wr => ∃ m : Nat, t8 = .int .i64 m ∧ 1 ≤ m ∧ m ≤ n ∧ Hid (Own wr 3 (.slice (some ⟨w.heap.size, 0, none⟩) n n) ((onesZ n m).map (Value.int .i64)) ∧ New w wr)) (fun t8 _ => n - (intOf t8).toNat)
  case atStart => exact ⟨1, rfl, Nat.le_refl _, h1, H6.out.1, H5.out.2.1.then H6.out.2 (fun i hi => by rw [hi]; exact Nat.le_refl _)⟩
  case round =>
    obtain ⟨m, rfl, hm1, hmn, HD⟩ := hrel
    obtain ⟨wz, hwz⟩ : ∃ wz : World, wz = wr := ⟨_, rfl⟩
    rw [← hwz] at HD
    rw [← hwz]
    clear hwz
    by_cases hlt : m < n
    · obtain ⟨r, hr⟩ : ∃ r, r = min m (n - m) := ⟨_, rfl⟩
      have hr2 : 1 ≤ r ∧ m + r ≤ n := by omega
      have hnm : ¬ (n = m) := by omega
      have hmI : ((m : Nat) : Int).toNat = m := Int.toNat_natCast m
      have HR := Lib.hid hr
      clear hr
      go_wp2_with fail
      refine wp_region_held_drew (S := fun _ => True) (by kernel_rfl) trivial (fun _ => ?_)
      refine held_take 0 (some 38) rfl rfl (by kernel_rfl) (by kernel_rfl) (by kernel_rfl) (fun _ _ _ h => h) rfl trivial (v := ?_) (fun w' hS => by go_simp; try with_reducible rfl) ?_
      simp only [Act.put, List.setIfInBounds_toArray, List.set_cons_zero, List.set_cons_succ]
      refine held_take 1 (some 39) rfl rfl (by kernel_rfl) (by kernel_rfl) (by kernel_rfl) (fun _ _ _ h => h) rfl trivial (v := ?_) (fun w' hS => by go_simp; try with_reducible rfl) ?_
      simp only [Act.put, List.setIfInBounds_toArray, List.set_cons_zero, List.set_cons_succ]
      refine held_take 2 (some 40) rfl rfl (by kernel_rfl) (by kernel_rfl) (by kernel_rfl) (fun _ _ _ h => h) rfl trivial (v := ?_) (fun w' hS => by go_simp; try with_reducible rfl) ?_
      simp only [Act.put, List.setIfInBounds_toArray, List.set_cons_zero, List.set_cons_succ]
      refine held_take 3 (some 41) rfl rfl (by kernel_rfl) (by kernel_rfl) (by kernel_rfl) (fun _ _ _ h => h) rfl trivial (v := .slice (some ⟨w.heap.size, m, none⟩) (n - m) (n - m)) (fun w' hS => by go_simp; try (first | (with_reducible rfl) | (simp [hnm, hmn, hmI]; done) | trace_state)) ?_
      simp only [Act.put, List.setIfInBounds_toArray, List.set_cons_zero, List.set_cons_succ]
      refine held_take 4 (some 42) rfl rfl (by kernel_rfl) (by kernel_rfl) (by kernel_rfl) (fun _ _ _ h => h) rfl trivial (v := ?_) (fun w' hS => by go_simp; try with_reducible rfl) ?_
      simp only [Act.put, List.setIfInBounds_toArray, List.set_cons_zero, List.set_cons_succ]
      refine held_take 5 (some 43) rfl rfl (by kernel_rfl) (by kernel_rfl) (by kernel_rfl) (fun _ _ _ h => h) rfl trivial (v := ?_) (fun w' hS => by go_simp; try with_reducible rfl) ?_
      simp only [Act.put, List.setIfInBounds_toArray, List.set_cons_zero, List.set_cons_succ]
      refine held_take 6 (some 44) rfl rfl (by kernel_rfl) (by kernel_rfl) (by kernel_rfl) (fun _ _ _ h => h) rfl trivial (v := .slice (some ⟨w.heap.size, 0, none⟩) m n) (fun w' hS => by go_simp; try (first | (with_reducible rfl) | (simp [hnm, hmn, hmI]; done) | trace_state)) ?_
      simp only [Act.put, List.setIfInBounds_toArray, List.set_cons_zero, List.set_cons_succ]
      refine held_only 7 (by kernel_rfl) rfl rfl (fun K1 hK1 => ?_)
      have hrun := run_copyO (P := Try.prog) (ty := 3) (sT := 23) tyInt (HD.out.1.new (New.drew wz)) m (n - m) (n - m) ⟨w.heap.size, 0, none⟩ m n (List.replicate r (.int .i64 1)) (by rw [List.length_replicate]; exact HR.out) (fun j u hu => ?hs) (by rw [List.length_replicate, List.length_map]; unfold onesZ; simp; omega) (fun u hu => by rw [List.eq_of_mem_replicate hu]; rfl)
      case hs =>
        have hj : j < r := by
          apply Classical.byContradiction
          intro hc
          rw [List.getElem?_eq_none (by rw [List.length_replicate]; omega)] at hu
          cases hu
        rw [List.getElem?_replicate, if_pos hj] at hu
        cases hu
        have hl : j < (onesZ n m).length := by unfold onesZ; simp; omega
        have h9 := ((HD.out.1.new (New.drew wz)).cell (i := j) (by rw [List.length_map]; exact hl)).1
        rw [gv_map_int hl] at h9
        have h8 : gi (onesZ n m) j = 1 := by
          unfold onesZ gi
          rw [List.getD_eq_getElem?_getD, List.getElem?_append, if_pos (by rw [List.length_replicate]; have := HR.out; omega), List.getElem?_replicate, if_pos (by have := HR.out; omega)]
          rfl
        rw [h8] at h9
        have h7 : (⟨w.heap.size, 0, none⟩ : Addr).add j = ⟨w.heap.size, j, none⟩ := by
          unfold Addr.add
          split
          · rename_i e; rw [e]
          · simp
        rw [h7]
        exact h9
      obtain ⟨w7, hrun, ho7, hc7⟩ := hrun
      rw [List.length_replicate] at hrun
      rw [ones_step hm1 hr2.2] at ho7
      have H7 := Lib.hid (And.intro ho7 ((HD.out.2.trans (New.drew wz)).then hc7 (fun i hi => by rw [hi]; exact Nat.le_refl _)))
      refine wp_copyO (d := .tmp 41) (s := .tmp 44) (by rfl) (by rfl) (by rfl) hrun (some 45) (by rfl) ?_
      refine hK1.out _ _ trivial (fun _ => ?_)
      clear hK1 K1 ho7 hc7 hrun
      have hwr : IntKind.i64.wrap ((m : Int) + (r : Int)) = ((m + r : Nat) : Int) := by rw [IntWalk.i64_in _ (by omega)]; push_cast; rfl
      have hgo : goInt r = .int .i64 (r : Int) := rfl
      simp only [Act.put, List.setIfInBounds_toArray, List.set_cons_zero, List.set_cons_succ]
      refine held_take 8 (some 46) rfl rfl (by kernel_rfl) (by kernel_rfl) (by kernel_rfl) (fun _ _ _ h => h) rfl trivial (v := .int .i64 ((m + r : Nat) : Int)) (fun w' hS => by go_simp; try (first | (with_reducible rfl) | (simp [hwr, hgo]; done) | trace_state)) ?_
      simp only [Act.put, List.setIfInBounds_toArray, List.set_cons_zero, List.set_cons_succ]
      refine held_take 9 (some 8) rfl rfl (by kernel_rfl) (by kernel_rfl) (by kernel_rfl) (fun _ _ _ h => h) rfl trivial (v := .int .i64 ((m + r : Nat) : Int)) (fun w' hS => by go_simp; try with_reducible rfl) ?_
      simp only [Act.put, List.setIfInBounds_toArray, List.set_cons_zero, List.set_cons_succ]
      refine wpAnyH_done (by kernel_rfl) ?_ _
      clear hwr hgo
      go_wp2_with fail
      go_roundw
      case rel => exact ⟨m + r, rfl, by omega, hr2.2, H7.out.1, H7.out.2⟩
      case measure => simp [intOf]; omega
    · obtain rfl : m = n := by omega
      go_wp2_with fail
      go_ret
      refine ⟨_, rfl, ?_, fun g hg => by simp [Value.ownBlock] at hg; omega, HD.out.2⟩
      have h9 := HD.out.1
      unfold onesZ at h9
      rw [Nat.sub_self, List.replicate_zero, List.append_nil] at h9
      exact h9

theorem any_take {xs : List Int} {k : Nat} {y : Int} (hk : k ≤ xs.length) : anyB (fun z => decide (y = z)) (xs.take k) = true ↔ ∃ i, i < k ∧ gi xs i = y := by
  simp only [anyB, List.any_eq_true, decide_eq_true_eq]
  constructor
  · rintro ⟨z, hz, rfl⟩
    obtain ⟨i, hi, rfl⟩ := List.getElem_of_mem hz
    rw [List.length_take] at hi
    exact ⟨i, by omega, by rw [gi_lt (by omega), List.getElem_take]⟩
  · rintro ⟨i, hi, rfl⟩
    exact ⟨_, List.mem_of_getElem? (i := i) (by rw [List.getElem?_take, if_pos hi, List.getElem?_eq_getElem (by omega)]), by rw [gi_lt (by omega)]⟩
theorem IsI.capb {w : World} {ao : Option Addr} {n cap : Nat} {xs : List Int} (h : IsI w (.slice ao n cap) xs) : n ≤ cap ∧ cap ≤ 9223372036854775807 := by
  obtain ⟨ao', cap', e, h1, h2, _⟩ := h
  cases e
  unfold maxLen at h2
  exact ⟨h1.1, by omega⟩
set_option maxHeartbeats 1000000 in
theorem implDifferent_any (p : Int) (v : Value) (xs : List Int) (w : World) (hx : IsI w v xs) (hp : -1000 ≤ p ∧ p ≤ 1000) :
    Calls Try.prog 38 #[.int .i64 p, v] w fun e w' => TellsB w e w' (DiffP p xs) := by
  obtain ⟨ao, n, cap, rfl, HN, hn⟩ := hx.shape
  have HX := Lib.hid hx
  clear hx
  go_enter Try.func38, Try.ntmps38
  go_wp2_with fail
  go_loop [9] (fun t9 => ∃ k : Nat, t9 = .int .i64 k ∧ k ≤ n ∧ Hid (∀ i j, i < j → j < k → gi xs i ≠ gi xs j)) (fun t9 => n - (intOf t9).toNat)
  case atStart => exact ⟨0, rfl, Nat.zero_le _, fun i j _ hj => by omega⟩
  case round =>
    obtain ⟨k, rfl, hk, HD⟩ := hrel
    by_cases hkn : k < n
    · obtain ⟨b, o, rfl, ck⟩ := HX.out.at hkn
      have hkx : k ≤ xs.length := by rw [← HN.out]; omega
      have HT := Lib.hid (HX.out.take (show k ≤ n by omega))
      obtain ⟨y, hy⟩ : ∃ y, y = gi xs k := ⟨_, rfl⟩
      rw [← hy] at ck
      have HY := Lib.hid hy
      have HAN := Lib.hid (any_take (xs := xs) (y := y) hkx)
      have hcb := HX.out.capb
      have hkc : k ≤ cap := by omega
      have hcm : cap ≤ 9223372036854775807 := hcb.2
      clear hy hkx hcb
      cases hb : anyB (fun z => decide (y = z)) (xs.take k) with
      | true =>
        have HB := Lib.hid hb
        clear hb
        go_wp2_with (go_at_call 81; refine (contains_any _ _ _ _ HT.out).mono ?_; rintro e w' ⟨rfl, rfl⟩; rw [HB.out])
        go_ret
        refine ⟨false, rfl, ⟨(fun h => by cases h), fun h => ?_⟩, Chg.refl _ _⟩
        obtain ⟨i, hi, he⟩ := HAN.out.1 HB.out
        exact absurd (he.trans HY.out) (h.2 i k hi (by rw [← HN.out]; exact hkn))
      | false =>
        have HB := Lib.hid hb
        clear hb
        go_wp2_with (go_at_call 81; refine (contains_any _ _ _ _ HT.out).mono ?_; rintro e w' ⟨rfl, rfl⟩; rw [HB.out])
        go_round
        case rel => exact ⟨k + 1, by go_num, by omega, fun i j hij hj => by
          by_cases e : j < k
          · exact HD.out i j hij e
          · obtain rfl : j = k := by omega
            intro he
            have := HAN.out.2 ⟨i, hij, by rw [he, HY.out]⟩
            rw [HB.out] at this; cases this⟩
        case measure => simp [intOf]; omega
    · obtain rfl : k = n := by omega
      go_wp2_with fail
      refine (has_any p _ xs _ HX.out hp).mono ?_
      rintro e w' ⟨rfl, hn1⟩
      have H1 := Lib.hid hn1
      clear hn1
      go_wp2_with fail
      go_ret
      refine ⟨_, rfl, ⟨fun h => ⟨fun i hi => by have := hasB_iff.1 h i hi; omega, fun i j hij hj => HD.out i j hij (by rw [HN.out]; exact hj)⟩, fun h => hasB_iff.2 (fun i hi => by have := h.1 i hi; omega)⟩, H1.out⟩

theorem IsI.lit1 (w : World) (x : Int) (t : TypeId) : IsI (w.alloc (.cells #[.int .i64 x] t)) (.slice (some ⟨w.heap.size, 0, none⟩) 1 1) [x] :=
  Own.isI (e := t) (.inr ⟨w.heap.size, 1, #[.int .i64 x], rfl, heap_alloc_new w _, by simp, by simp [maxLen], by simp, rfl⟩) (by simp [Mid])
/-- Row i + 1 as far as k, behind it row i. -/
def powMid (p : Int) (xs : List Int) (i k : Nat) : List Int := tab xs.length (fun t => pwZ p (gi xs t) (if t < k then i + 1 else i))
theorem powMid_zero (p : Int) (xs : List Int) (i : Nat) : powMid p xs i 0 = powL p xs i := by
  rw [powL_tab]; exact tab_congr (fun t _ => by rw [if_neg (by omega)])
theorem powMid_all (p : Int) (xs : List Int) (i : Nat) : powMid p xs i xs.length = powL p xs (i + 1) := by
  rw [powL_tab]; exact tab_congr (fun t ht => by rw [if_pos ht])
theorem powMid_set {p : Int} {xs : List Int} {i k : Nat} (hk : k < xs.length) : (powMid p xs i k).set k (pwZ p (gi xs k) i * gi xs k % p) = powMid p xs i (k + 1) :=
  ext_gi (by unfold powMid; rw [List.length_set, tab_length, tab_length]) (fun j hj => by
    unfold powMid at hj ⊢
    rw [List.length_set, tab_length] at hj
    rw [gi_set (by rw [tab_length]; exact hj), tab_get hj, tab_get hj]
    by_cases e : k = j
    · subst e; rw [if_pos rfl, if_pos (by omega)]; rfl
    · rw [if_neg e]
      by_cases c : j < k
      · rw [if_pos c, if_pos (by omega)]
      · rw [if_neg c, if_neg (by omega)])
theorem powMid_get {p : Int} {xs : List Int} {i k : Nat} (hk : k < xs.length) : gi (powMid p xs i k) k = pwZ p (gi xs k) i := by
  unfold powMid; rw [tab_get hk, if_neg (by omega)]
theorem powMid_length (p : Int) (xs : List Int) (i k : Nat) : (powMid p xs i k).length = xs.length := tab_length _ _
theorem pow_first (p : Int) (xs : List Int) : powL p xs 0 = List.replicate xs.length 1 := by
  rw [powL_tab]
  exact ext_gi (by rw [tab_length, List.length_replicate]) (fun i hi => by
    rw [tab_length] at hi
    rw [tab_get hi]
    show (1 : Int) = (List.replicate xs.length (1 : Int)).getD i 0
    rw [List.getD_eq_getElem?_getD, List.getElem?_replicate, if_pos hi]; rfl)

set_option maxRecDepth 100000 in
set_option maxHeartbeats 4000000 in
theorem implPowersOf_any (p k : Int) (v : Value) (xs : List Int) (w : World) (hx : IsI w v xs) :
    Calls Try.prog 9 #[.int .i64 p, v, .int .i64 k] w fun e w' => GivesCB w e w' (PowQ p xs k) := by
  obtain ⟨ao, n, cap, rfl, HN0, hn⟩ := hx.shape
  have HX := Lib.hid hx
  clear hx
  have r0 := Blk2.alloc w (.int .i64 0) (.slice none 0 0) 28
  have n0 := New.alloc w (.cells #[.int .i64 0, .slice none 0 0] 28)
  obtain ⟨w0, hw0⟩ : ∃ w0, w0 = w.alloc (.cells #[.int .i64 0, .slice none 0 0] 28) := ⟨_, rfl⟩
  rw [← hw0] at r0 n0
  have HW0 := Lib.hid hw0
  clear hw0
  have fin : ∀ wq : World, New w wq → Blk2 wq w.heap.size (.int .i64 0) (.slice none 0 0) 28 → ¬ PowOk p xs k → GivesCB w (.returned (.tuple #[.agg #[.int .i64 0, .slice none 0 0], .bool false])) ((wq.setCell ⟨w.heap.size, 0, none⟩ (.int .i64 0)).setCell ⟨w.heap.size, 1, none⟩ (.slice none 0 0)) (PowQ p xs k) := fun wq h1 h2 h3 =>
    ⟨.slice none 0 0, [], [], 0, false, rfl, ⟨Own.nil _ _, rfl, fun i hi => by simp at hi, fun i j hi => by simp at hi⟩, ⟨fun g hg => by simp [Value.ownBlock] at hg, fun i hi => by simp at hi⟩, ⟨(fun h => by cases h), fun _ => ⟨h3, rfl, rfl⟩⟩, h1.then (h2.put _ _).2.2 (fun i hi => by omega)⟩
  have FIN := Lib.hid fin
  clear fin
  go_enter Try.func9, Try.ntmps9
  go_upto_region 1 with fail
  rw [← HW0.out]
  go_wp2_with fail
  refine (fieldOf_any p _).mono ?_
  rintro e w1 ⟨rfl, hn1⟩
  have r1 := r0.new hn1
  have n1 := n0.trans hn1
  have hlt0 : w.heap.size < w1.heap.size := Blk2.lt r1
  have H1 := Lib.hid (And.intro n1 r1)
  obtain ⟨d0, d1, f0, f1⟩ := r1.cells
  clear r0 n0 hn1 r1 n1
  cases hp : prB p with
  | false =>
    have HP := Lib.hid hp
    clear hp
    go_wp2_with fail
    obtain ⟨x0, x1, hx⟩ := H1.out.2.put (.int .i64 0) (.slice none 0 0)
    refine bodyPost_ret (v := .tuple #[.agg #[.int .i64 0, .slice none 0 0], .bool false]) (by simp [results, go_sem, x0, x1]) rfl ?_
    exact FIN.out _ H1.out.1 H1.out.2 (fun h => by have := h.1; rw [HP.out] at this; cases this)
  | true =>
    have hpb := prB_bounds hp
    have HP := Lib.hid hp
    clear hp
    cases hi1 : inB k 1 4 with
    | false =>
      have HI1 := Lib.hid hi1
      clear hi1
      go_wp2_with (first | (go_at_call 37; refine (within_any _ _ _ _).mono ?_; rintro e w' ⟨rfl, rfl⟩; rw [HI1.out]))
      obtain ⟨x0, x1, hx⟩ := H1.out.2.put (.int .i64 0) (.slice none 0 0)
      refine bodyPost_ret (v := .tuple #[.agg #[.int .i64 0, .slice none 0 0], .bool false]) (by simp [results, go_sem, x0, x1]) rfl ?_
      exact FIN.out _ H1.out.1 H1.out.2 (fun h => by have := inB_iff.2 h.2.1; rw [HI1.out] at this; cases this)
    | true =>
      have hk := inB_iff.1 hi1
      have HI1 := Lib.hid hi1
      clear hi1
      cases hi2 : inB n k 7 with
      | false =>
        have HI2 := Lib.hid hi2
        clear hi2
        go_wp2_with (first | (go_at_call 37; refine (within_any _ _ _ _).mono ?_; rintro e w' ⟨rfl, rfl⟩; first | rw [HI1.out] | rw [HI2.out]))
        obtain ⟨x0, x1, hx⟩ := H1.out.2.put (.int .i64 0) (.slice none 0 0)
        refine bodyPost_ret (v := .tuple #[.agg #[.int .i64 0, .slice none 0 0], .bool false]) (by simp [results, go_sem, x0, x1]) rfl ?_
        exact FIN.out _ H1.out.1 H1.out.2 (fun h => by have := inB_iff.2 h.2.2.1; rw [← HN0.out, HI2.out] at this; cases this)
      | true =>
        have hnk := inB_iff.1 hi2
        have HI2 := Lib.hid hi2
        clear hi2
        go_wp2_with (first | (go_at_call 37; refine (within_any _ _ _ _).mono ?_; rintro e w' ⟨rfl, rfl⟩; first | rw [HI1.out] | rw [HI2.out]))
        refine (implDifferent_any p _ xs _ (HX.out.new H1.out.1) (by omega)).mono ?_
        rintro e w2 ⟨b, rfl, hb, hn2⟩
        have H2 := Lib.hid (And.intro (H1.out.1.trans hn2) (H1.out.2.new hn2))
        have hlt2 : w.heap.size < w2.heap.size := Nat.lt_of_lt_of_le hlt0 hn2.size
        obtain ⟨d0, d1, f0, f1⟩ := H2.out.2.cells
        clear hn2
        cases b with
        | false =>
          have HNO : Hid (¬ DiffP p xs) := fun h => by have := hb.2 h; cases this
          clear hb
          go_wp2_with fail
          obtain ⟨x0, x1, hx⟩ := H2.out.2.put (.int .i64 0) (.slice none 0 0)
          refine bodyPost_ret (v := .tuple #[.agg #[.int .i64 0, .slice none 0 0], .bool false]) (by simp [results, go_sem, x0, x1]) rfl ?_
          exact FIN.out _ H2.out.1 H2.out.2 (fun h => HNO.out h.2.2.2)
        | true =>
          obtain ⟨k, rfl⟩ : ∃ i : Nat, k = i := ⟨k.toNat, by omega⟩
          have HDP := Lib.hid (hb.1 rfl)
          clear hb
          go_wp2_with fail
          refine (repeat_any n _ _ (IsI.lit1 w2 1 3) (by omega) (by omega)).mono ?_
          rintro e w3 ⟨u, rfl, hou, hfu, hn3⟩
          obtain ⟨gu, lu, cu, rfl, hul⟩ : ∃ gu lu cu, u = .slice (some ⟨gu, 0, none⟩) lu cu ∧ lu = n := by
            rcases hou with ⟨_, h⟩ | ⟨g, c, cur, rfl, _⟩
            · exfalso
              have : (List.replicate n (1 : Int)).length = 0 := by rw [List.map_eq_nil_iff.1 h]; rfl
              rw [List.length_replicate] at this; omega
            · exact ⟨g, _, c, rfl, by simp⟩
          subst hul
          have nr : New w2 w3 := (New.alloc w2 _).trans hn3
          have hgu : w2.heap.size ≤ gu := Nat.le_trans (by simp) (hfu gu rfl)
          have hgu3 : gu < w3.heap.size := hou.lt rfl
          rw [show List.replicate lu (1 : Int) = powL p xs 0 by rw [HN0.out, pow_first]] at hou
          have H3 := Lib.hid (And.intro (H2.out.1.trans nr) (And.intro (H2.out.2.new nr) hou))
          have hlt3 : w.heap.size < w3.heap.size := by omega
          clear hou hfu hn3 nr d0 d1 f0 f1
          go_wp2_with (at_make; refine wpList_mk rfl _ _ _ rfl tyRow _ _ _ _ 0 k rfl rfl rfl rfl (Nat.zero_le _) (by omega) ?_; intro v4 w4 hv4 ho4 hn4 hs4; subst hv4; have H4 := Lib.hid (And.intro ho4 (And.intro hn4 hs4)); clear ho4 hn4 hs4)
          go_loopw [11, 47] (fun t11 t47 wr => ∃ (i : Nat) (vs : List Value), t47 = .int .i64 i ∧ i ≤ k ∧ Hid (OwnR wr 23 3 t11 vs (powR p xs i) ∧ FromR w3.heap.size t11 vs (powR p xs i)) ∧ Hid (Own wr 3 (.slice (some ⟨gu, 0, none⟩) lu cu) ((powL p xs i).map (Value.int .i64)) ∧ New w wr ∧ w3.heap.size ≤ wr.heap.size ∧ Blk2 wr w.heap.size (.int .i64 0) (.slice none 0 0) 28)) (fun _ t47 _ => k - (intOf t47).toNat)
          case atStart => exact ⟨0, [], rfl, Nat.zero_le _, ⟨⟨H4.out.1, rfl, fun i hi => by simp [powR] at hi, fun i j hi => by simp [powR] at hi⟩, ⟨From.new _ _ _, fun i hi => by simp [powR] at hi⟩⟩, H3.out.2.2.new H4.out.2.1, H3.out.1.trans H4.out.2.1, H4.out.2.1.size, H3.out.2.1.new H4.out.2.1⟩
          case round =>
            obtain ⟨i, vs, rfl, hi, HO, HN⟩ := hrel
            obtain ⟨wz, hwz⟩ : ∃ wz : World, wz = wr := ⟨_, rfl⟩
            rw [← hwz] at HO HN
            rw [← hwz]
            clear hwz
            have hvl : vs.length = i := by rw [HO.out.1.len, powR_length]
            obtain ⟨a5, l5, c5, rfl, _, _, _⟩ := HO.out.1.outer.opened (by rw [hvl]; unfold Mid; omega)
            obtain ⟨d0, d1, f0, f1⟩ := HN.out.2.2.2.cells
            have HVL := Lib.hid hvl
            clear hvl
            by_cases hik : i < k
            · go_wp2_with fail
              refine (clone_any _ (powL p xs i) _ (HN.out.1.isI (by rw [powL_length, ← HN0.out]; unfold Mid; omega))).mono ?_
              rintro e w5 ⟨u5, rfl, ho5, hf5, hn5⟩
              obtain ⟨a6, l6, c6, rfl, _, _, _⟩ := ho5.opened (by rw [List.length_map, powL_length, ← HN0.out]; unfold Mid; omega)
              have H5 := Lib.hid (And.intro ho5 (And.intro hf5 hn5))
              clear ho5 hf5 hn5 d0 d1 f0 f1
              go_wp2_with (at_builtin; refine wpList_app1 rfl _ _ _ rfl tyRow w5 (HO.out.1.outer.new H5.out.2.2) rfl _ _ rfl rfl rfl (by rw [HVL.out]; omega) ?_; intro v6 w6 k1 k2 k3; have K6 := Lib.hid (And.intro k1 (And.intro k2 k3)); clear k1 k2 k3)
              obtain ⟨m1, m2, m3⟩ := OwnR.push HO.out.1 HO.out.2 HN.out.2.2.1 H5.out.2.2 H5.out.1 H5.out.2.1 K6.out.1 K6.out.2.1 K6.out.2.2
              have hrow := HN.out.1.chg m3 (fun g hg e => by simp [Value.ownBlock] at hg; have := HO.out.2.1 g e; omega)
              have hblk := HN.out.2.2.2.chg m3 (fun e => by have := HO.out.2.1 _ e; omega)
              have H6 := Lib.hid (And.intro (And.intro m1 m2) (And.intro hrow (And.intro (HN.out.2.1.then m3 (fun g hg => by have := HO.out.2.1 g hg; omega)) (And.intro (Nat.le_trans HN.out.2.2.1 m3.size) hblk))))
              rw [← powMid_zero] at hrow
              have HR0 := Lib.hid hrow
              clear m1 m2 m3 hrow hblk
              go_loopw [56] (fun t56 wr => ∃ j : Nat, t56 = .int .i64 j ∧ j ≤ lu ∧ Hid (Own wr 3 (.slice (some ⟨gu, 0, none⟩) lu cu) ((powMid p xs i j).map (Value.int .i64)) ∧ Chg (· = gu) w6 wr)) (fun t56 _ => lu - (intOf t56).toNat)
              case atStart => exact ⟨0, rfl, Nat.zero_le _, HR0.out, Chg.refl _ _⟩
              case round =>
                obtain ⟨j, rfl, hj, HQ⟩ := hrel
                obtain ⟨wy, hwy⟩ : ∃ wy : World, wy = wr := ⟨_, rfl⟩
                rw [← hwy] at HQ
                rw [← hwy]
                clear hwy
                by_cases hjn : j < lu
                · have hjx : j < xs.length := by rw [← HN0.out]; exact hjn
                  obtain ⟨bx, ox, rfl, cx⟩ := ((HX.out.new H6.out.2.2.1).chg HQ.out.2 (fun g hg e => by
                    have h8 : g < w.heap.size := by
                      obtain ⟨b8, o8, e8, c8⟩ := HX.out.at hjn
                      rw [e8] at hg
                      simp [Value.ownBlock] at hg
                      have := World.block_lt_of_cell? _ _ c8
                      simp only at this; omega
                    omega)).at hjn
                  obtain ⟨cr, fr⟩ := HQ.out.1.cell (i := j) (by rw [List.length_map, powMid_length]; exact hjx)
                  rw [gv_map_int (by rw [powMid_length]; exact hjx), powMid_get hjx] at cr
                  have hx := HDP.out.1 j hjx
                  have hy := pwZ_range (p := p) (x := gi xs j) (by omega) i
                  have hst := HQ.out.1.set j (.int .i64 (pwZ p (gi xs j) i * gi xs j % p))
                  rw [set_map_int, powMid_set hjx] at hst
                  obtain ⟨x, hxe⟩ : ∃ x, gi xs j = x := ⟨_, rfl⟩
                  rw [hxe] at cx hx cr hy hst
                  obtain ⟨y, hye⟩ : ∃ y, pwZ p x i = y := ⟨_, rfl⟩
                  rw [hye] at hy cr hst
                  have hxy0 : 0 ≤ y * x := Int.mul_nonneg hy.1 hx.1
                  have hxy : y * x ≤ 36 := Int.mul_le_mul (show y ≤ 6 by omega) (show x ≤ 6 by omega) hx.1 (by omega)
                  have HST := Lib.hid hst
                  clear hxe hye hst
                  go_wp2_with (go_at_call 41; refine (rest_any _ _ _ (by omega) (by omega)).mono ?_; rintro e w' ⟨rfl, rfl⟩)
                  go_roundw
                  case rel => exact ⟨j + 1, by go_num, by omega, HST.out, Chg.trans HQ.out.2 (Chg.setCell wy ⟨gu, j, none⟩ _) (fun _ _ x => x) (fun _ _ x => x)⟩
                  case measure => simp [intOf]; omega
                · obtain rfl : j = lu := by omega
                  go_wp2_with fail
                  go_roundw
                  case rel =>
                    have h9 := HQ.out.1
                    rw [HN0.out, powMid_all] at h9
                    exact ⟨i + 1, vs ++ [Value.slice a6 l6 c6], by go_num, by omega, ⟨H6.out.1.1.chg HQ.out.2 (fun g hg e => by have := H6.out.1.2.1 g hg; omega) (fun t ht g hg e => by have := H6.out.1.2.2 t ht g hg; omega), H6.out.1.2⟩, by rw [HN0.out]; exact h9, H6.out.2.2.1.then HQ.out.2 (fun g hg => by omega), Nat.le_trans H6.out.2.2.2.1 HQ.out.2.size, H6.out.2.2.2.2.chg HQ.out.2 (by omega)⟩
                  case measure => simp [intOf]; omega
            · obtain rfl : i = k := by omega
              go_wp2_with fail
              obtain ⟨x0, x1, hx⟩ := HN.out.2.2.2.put (.int .i64 p) (.slice a5 l5 c5)
              refine bodyPost_ret (v := .tuple #[.agg #[.int .i64 p, .slice a5 l5 c5], .bool true]) (by simp [results, go_sem, x0, x1]) rfl ?_
              exact ⟨.slice a5 l5 c5, vs, powR p xs i, p, true, rfl, HO.out.1.chg hx (own_ne_blk2 HO.out.1.outer HN.out.2.2.2 (by decide)) (fun t ht => own_ne_blk2 (HO.out.1.inner t ht) HN.out.2.2.2 (by decide)), ⟨HO.out.2.1.mono (by omega), fun t ht => (HO.out.2.2 t ht).mono (by omega)⟩, ⟨fun _ => ⟨⟨HP.out, ⟨by omega, by omega⟩, ⟨by rw [← HN0.out]; omega, by rw [← HN0.out]; omega⟩, HDP.out⟩, rfl, by rw [Int.toNat_natCast]⟩, fun h => by cases h⟩, HN.out.2.1.then hx (fun i hi => by omega)⟩
end Go.Proofs.Ytahgjfmdafhedaa

/- A range over an iterator that hands the same list of its own in each round, with other numbers in it. A region that draws its order, within a round: by the laws for one outside of rounds. The iterator over all messages hands them in their order. -/
import Derived.RangeFuncNested
import Derived.RangeFuncBound
import Derived.RangeFuncCalls
import Derived.RangeFuncLeaves
import Derived.Shelf.Abstract
import Derived.Shelf.RegionOpen
import Derived.OwnWalkIn
import Derived.TacticsInMore
import Derived.LoopNIn
import Derived.LoopIn
import Derived.Test.YtcdbeepphdfipaaGreatDoorBase
import Derived.OrdersIn
import Derived.Test.YtcdbeepphdfipaaGreatDoorPlaM
import Derived.Test.YtcdbeepphdfipaaGreatDoorLeaf
import Derived.Test.YtcdbeepphdfipaaGreatDoorLawK
import Derived.Sort.QuietIn
namespace Go.Proofs.YtcdbeepphdfipaaGreatDoor
open Go.RowKit
set_option linter.unusedVariables false

/-- The iterator's word: J between two rounds, R what lies at the block that is handed. -/
def SeqM (F : Fence) (n : Nat) (P : Program) (g : Nat) (lb : Array Value) (K : Nat → Nat → Prop) (val : Nat → Value) (R : Nat → Nat → World → Prop) (T : Nat) (w0 : World) : Prop :=
  ∀ (l : Nat) (J : Nat → World → Prop) (W : World), New w0 W → (∀ t X Y, J t X → Chg (· = W.heap.size) X Y → J t Y) →
    (∀ t X, t < T → J t X → R W.heap.size t X → YieldAt F (n - 1) P l #[val W.heap.size] X fun e Y => e = .returned (.bool true) ∧ J (t + 1) Y ∧ X.heap.size ≤ Y.heap.size ∧ ∀ b, K W.heap.size b → Y.heap[b]? = X.heap[b]?) →
    J 0 W →
    CallsIn F n P g (#[.func (.yield l) #[] #[]] ++ lb) W fun e Y => (∃ v, e = .returned v) ∧ J T Y

/-- How the body of a round is left. -/
def postM (B : Nat) (K : Nat → Prop) (I : World → Prop) (W : World) : Exit → Act → World → Prop
  | .normal, _, Y => I Y ∧ W.heap.size ≤ Y.heap.size ∧ ∀ b, (b = B ∨ b = B + 1 ∨ K b) → Y.heap[b]? = W.heap[b]?
  | _, _, _ => False

theorem chg_putObj (W : World) (l : Nat) (o : Obj) : Chg (· = l) W (W.putObj l o) :=
  ⟨rfl, rfl, rfl, by simp, fun k _ hk => World.putObj_heap_other (fun e => hk e)⟩

variable {F : Fence} {n : Nat} {P : Program}

theorem wpIn_rangeM {g : Operand} {ps : Array Tmp} {assign body : Code} {Q : Exit → Act → World → Prop} {a : Act} {w : World}
    (hro : F.round = none) (h1 : 1 ≤ n) {gf : Nat} {lb : Array Value} (hg : a.eval g = .func (.func gf) #[] lb) (hFg : F.fn gf) (eg : ∀ args w, (callFunc gf args).run P w = .ok (.enter gf args) w)
    {K : Nat → Nat → Prop} {val : Nat → Value} {R : Nat → Nat → World → Prop} {T : Nat} {w0 : World} (hseq : SeqM F (n - 1) P gf lb K val R T w0)
    (hb0 : New w0 w) (hps : ps.size = 1) (hK : ∀ b, K (w.heap.size + 2) b → b ≠ w.heap.size + 1) (hR : ∀ t X Y, R (w.heap.size + 2) t X → Y.heap[w.heap.size + 2]? = X.heap[w.heap.size + 2]? → R (w.heap.size + 2) t Y)
    (I : Nat → World → Prop) (hI : ∀ t X Y, I t X → Chg (fun k => w.heap.size ≤ k ∧ k ≤ w.heap.size + 2) X Y → I t Y) (h0 : I 0 w) (a₁ : Act)
    (hassign : ∀ (l : Nat) (W : World) (C : Act → World → Prop), C a₁ W →
      assign.wpIn (F.inRound l) (n - 1 - 1) P (Exit.then C (fun _ _ _ => False)) { tmps := (ps.zip #[val (w.heap.size + 2)]).foldl (fun t (p, v) => t.setIfInBounds p v) a.tmps, defers := [] } W)
    (hbody : ∀ (l t : Nat) (W : World), t < T → I t W → w.heap.size + 2 ≤ W.heap.size → R (w.heap.size + 2) t W → body.wpIn (F.inRound l) (n - 1 - 1) P (postM w.heap.size (K (w.heap.size + 2)) (I (t + 1)) W) a₁ W)
    (hdone : ∀ (W : World), I T W → W.heap[w.heap.size]? = some (.deferred (some [])) → Q .normal { a with defers := { target := .collected w.heap.size, args := #[] } :: a.defers } W) :
    (Code.rangeFunc g ps assign body).wpIn F n P Q a w := by
  refine wpIn_rangeFunc ?_
  intro fn hfn
  rw [hro]
  obtain ⟨rec, hrec⟩ : ∃ rec : LoopState → Option Code → Loop, rec = fun st pe => { state := st, pending := pe, fn, tmps := a.tmps, params := ps, assign, body, defers := w.heap.size } := ⟨_, rfl⟩
  obtain ⟨W1, hW1⟩ : ∃ W1, (w.alloc (.deferred (some []))).alloc (.loop (rec .ready none)) = W1 := ⟨_, rfl⟩
  have hL1 : W1.heap[w.heap.size + 1]? = some (.loop (rec .ready none)) := by
    rw [← hW1]; have := World.alloc_heap_new (w.alloc (.deferred (some []))) (.loop (rec .ready none)); rwa [World.size_alloc] at this
  have hK1 : W1.heap[w.heap.size]? = some (.deferred (some [])) := by
    rw [← hW1]; exact (Below.heap_alloc _ _ _ (by simp)).trans (World.alloc_heap_new w _)
  have hN1 : New w W1 := by rw [← hW1]; exact (New.alloc _ _).trans (New.alloc _ _)
  have hs1 : W1.heap.size = w.heap.size + 2 := by rw [← hW1]; simp
  have hI1 : I 0 W1 := hI _ _ _ h0 (hN1.mono (fun _ _ x => x.elim))
  refine ⟨w.heap.size + 1, [{ target := .collected w.heap.size, args := #[] }], W1, { target := .fn (.func gf) lb, args := #[.func (.yield (w.heap.size + 1)) #[] #[]] }, W1, gf,
    #[.func (.yield (w.heap.size + 1)) #[] #[]] ++ lb, W1, ?_, ?_, ?_, ?_, fun _ => h1, ?_⟩
  · rw [← hW1, hrec]; exact run_enterLoop_outer _ _ _ _ _
  · simp only [resolve, hg]
    simp [go_sem]
  · intro f' hf'; simp [Target.leads] at hf'; subst hf'; exact hFg
  · simp [invoke, go_sem, eg]
  · refine (hseq (w.heap.size + 1)
      (fun t X => I t X ∧ (X.heap[w.heap.size + 1]? = some (.loop (rec .ready none)) ∧ X.heap[w.heap.size]? = some (.deferred (some []))) ∧ w.heap.size + 2 ≤ X.heap.size)
      W1 (hb0.trans hN1)
      (fun t X Y hs hc => ⟨hI _ _ _ hs.1 (hc.mono (fun i _ e => by rw [hs1] at e; omega)), ⟨hc.heapAt hs.2.1.1 (by omega), hc.heapAt hs.2.1.2 (by omega)⟩, Nat.le_trans hs.2.2 hc.size⟩)
      ?_ ⟨hI1, ⟨hL1, hK1⟩, by omega⟩).mono ?_
    · -- one round
      rw [hs1]
      rintro t W ht ⟨hi, ⟨hl, hk⟩, hsz⟩ hr
      have hlt : w.heap.size + 1 < W.heap.size := (Array.getElem?_eq_some_iff.1 hl).1
      have hy := run_yield (P := P) (args := #[val (w.heap.size + 2)]) hl (by rw [hrec]; simp [hps])
      rw [hrec] at hy
      refine ⟨fn, _, assign, body, hy, roundIn_of_wpIn hfn (hassign _ W _ ⟨_, run_beginRound hl (by rw [hrec]), ?_⟩)⟩
      have hl2 : (W.putObj (w.heap.size + 1) (.loop { rec .ready none with state := .busy })).heap[w.heap.size + 1]? = some (.loop { rec .ready none with state := .busy }) := World.putObj_heap_same hlt
      have hk2 : (W.putObj (w.heap.size + 1) (.loop { rec .ready none with state := .busy })).heap[w.heap.size]? = some (.deferred (some [])) := (World.putObj_heap_other (by omega)).trans hk
      refine wpIn_mono (hbody _ t _ ht (hI _ _ _ hi ((chg_putObj W (w.heap.size + 1) _).mono (fun i _ e => by omega))) (by simpa using hsz) (hR _ _ _ hr (World.putObj_heap_other (by omega)))) ?_
      rintro e a3 W3 hp
      cases e with
      | normal =>
        obtain ⟨hi3, hsz3, hkeep⟩ := hp
        have hl3 := (hkeep (w.heap.size + 1) (.inr (.inl rfl))).trans hl2
        have hk3 := (hkeep w.heap.size (.inl rfl)).trans hk2
        have hend := run_endRound (P := P) none hl3
        rw [hrec] at hend
        refine ⟨_, _, hend, rfl, ⟨hI _ _ _ hi3 ((chg_putObj W3 (w.heap.size + 1) _).mono (fun i _ e => by omega)), ⟨?_, (World.putObj_heap_other (by omega)).trans hk3⟩, ?_⟩, ?_, fun b hb => ?_⟩
        · rw [hrec]; exact World.putObj_heap_same (Array.getElem?_eq_some_iff.1 hl3).1
        · simp at hsz3 ⊢; omega
        · simp at hsz3 ⊢; omega
        · have hne := hK b hb
          exact (World.putObj_heap_other hne).trans ((hkeep b (.inr (.inr hb))).trans (World.putObj_heap_other hne))
      | ret => exact hp.elim
      | exit id => exact hp.elim
      | goto t => exact hp.elim
      | panic ch => exact hp.elim
      | outgrown => exact hp.elim
    · rintro e W2 ⟨⟨v, rfl⟩, hi, ⟨hl, hk⟩, hsz⟩
      exact ⟨none, _, by have := run_endLoop (P := P) hl (by rw [hrec]; simp); rw [hrec] at this; exact this, hdone _ (hI _ _ _ hi ((chg_putObj W2 (w.heap.size + 1) _).mono (fun i _ e => by omega))) ((World.putObj_heap_other (by omega)).trans hk)⟩
end Go.Proofs.YtcdbeepphdfipaaGreatDoor

namespace Go.Proofs.YtcdbeepphdfipaaGreatDoor
open Go.RowKit
set_option linter.unusedVariables false

section
variable {n l : Nat} {P : Program} {ops : Array Oper} {Q : Exit → Act → World → Prop} {md : Region.Mode}

theorem rows_inRound {row : String} {args : Array Value} {w : World} {R : Value → World → Prop} (h : Rows P row args w R) : RowsIn (Fence.wide.inRound l) n P row args w R := by
  intro c cs _
  obtain ⟨v, w', r, s⟩ := h c cs
  exact ⟨v, w', r, stepsIn_wide.2 s⟩

theorem Oper.inRound_of_wp {o : Oper} {a : Act} {w : World} {K : Act → World → Prop} (hnd : ∀ c, o.op ≠ .defer c) (h : o.wp P a w K Q) : o.wpIn (Fence.wide.inRound l) n P a w K Q := by
  refine ⟨fun _ _ => trivial, ?_⟩
  rw [Oper.semAt_plain _ _ _ hnd]
  unfold Oper.wp at h
  generalize (execOp a.eval o).run P w = r at *
  cases r with
  | ok x w' =>
    cases x <;> simp only [Oper.upon] at h <;> simp only [Oper.uponIn] <;>
      first
        | exact h
        | exact h.elim
        | exact ⟨fun hd => by simp [Fence.wide] at hd, CallsIn.inRound l (callsIn_wide.2 h)⟩
        | exact ⟨fun hd => by simp [Fence.wide] at hd, rows_inRound h⟩
  | halt x w' => cases x <;> simp only [Oper.upon] at h <;> simp only [Oper.uponIn] <;> first | exact h | exact h.elim

theorem wpOpIn_of {i : Nat} {K : Act → World → Prop} {a : Act} {w : World} (hnd : ∀ o, ops[i]? = some o → ∀ c, o.op ≠ .defer c) (hno : ¬ LetsOut Q) (h : wpOp P ops Q i K a w) : wpOpIn (Fence.wide.inRound l) n P ops Q i K a w := by
  unfold wpOp at h
  unfold wpOpIn
  cases ho : ops[i]? with
  | none => simp only [ho] at h ⊢; exact h
  | some o =>
    simp only [ho] at h ⊢
    split
    · rename_i hw
      simp only [hw, if_true] at h
      rcases h with h | h
      · exact Oper.inRound_of_wp (hnd o ho) h
      · exact absurd h.2 hno
    · rename_i hw
      simp only [hw] at h
      exact ⟨fun _ _ => trivial, h⟩

theorem wpAnyIn_of (hnd : ∀ (i : Nat) (o : Oper), ops[i]? = some o → ∀ c : Call, o.op ≠ .defer c) (hno : ¬ LetsOut Q) : ∀ (fuel : Nat) (listed : Array Bool) (a : Act) (w : World), wpAny P md ops Q fuel listed a w → wpAnyIn (Fence.wide.inRound l) n P md ops Q fuel listed a w
  | 0, _, _, _, h => h
  | fuel + 1, _, _, _, h => ⟨h.1, fun i hi => wpOpIn_mono (fun a' w' h' => wpAnyIn_of hnd hno fuel _ a' w' h') (wpOpIn_of (hnd i) hno (h.2 i hi))⟩

/-- No operation of a list of them is a defer statement. -/
def noDefer (ops : List Oper) : Bool := ops.all (fun o => match o.op with | .defer _ => false | _ => true)
theorem noDefer_spec {ops : List Oper} (h : noDefer ops = true) (i : Nat) (o : Oper) (ho : ops.toArray[i]? = some o) (c : Call) : o.op ≠ .defer c := by
  intro e
  have h1 : o ∈ ops := by rw [List.getElem?_toArray] at ho; exact List.mem_of_getElem? ho
  have := List.all_eq_true.1 h o h1
  rw [e] at this
  simp at this

theorem wpIn_region_held_round {id : Nat} {L : List Oper} {S : World → Prop} {a : Act} {w : World} (hm : P.follows .mixedOrders = true) (hnd : noDefer L = true) (hno : ¬ LetsOut Q) (hS : S w.drew)
    (h : S w.drew → wpAnyH P .any L.toArray Q S L.toArray.size (Array.replicate L.toArray.size false) a w.drew) : (Code.region id L.toArray true).wpIn (Fence.wide.inRound l) n P Q a w :=
  wpIn_region_any hm (wpAnyIn_of (noDefer_spec hnd) hno _ _ _ _ (wpAny_of_held _ _ _ _ (h hS)))
end
end Go.Proofs.YtcdbeepphdfipaaGreatDoor

namespace Go.Proofs.YtcdbeepphdfipaaGreatDoor
open Go.RowKit
set_option linter.unusedVariables false
attribute [local go_sem] Oper.semAt_some

theorem wpListIn_mk {F : Fence} {n : Nat} {P : Program} {w : World} {ops : Array Oper} {rest : List Oper} {o : Oper} {a : Act} {Q : Exit → Act → World → Prop} (hgd : o.guard = none) (l c : Operand) (t : TypeId) (ho : o.op = .makeSlice t l c)
    {e : TypeId} {z : Value} (T : OneTy P t e z) (kl kc : IntKind) (L C : Int) (k m : Nat) (hl : a.eval l = .int kl L) (hc : a.eval c = .int kc C) (hn : L = k) (hC : C = m) (hnm : k ≤ m) (hb : m ≤ 1099511627776)
    (h : ∀ v w', v = .slice (some ⟨w.heap.size, 0, none⟩) k m → Own w' e v (List.replicate k z) → New w w' → w'.heap.size = w.heap.size + 1 → wpListIn F n P ops Q rest (a.put o.dst v) w') :
    wpListIn F n P ops Q (o :: rest) a w := by
  subst hn hC
  obtain ⟨i, ht, hi, hz, hs, hby, hzc⟩ := T
  refine wpListIn_plain hgd fun K hK => ?_
  have hbig : i.bytes * m ≤ 281474976710656 := by have := Nat.mul_le_mul hby hb; omega
  have hr := run_make (P := P) w t e i z ht hi hz kl kc (k : Int) (m : Int) (by omega) (by omega) (Int.ofNat_le.2 hbig) (by omega)
  unfold Oper.wpIn
  refine ⟨?_, ?_⟩
  · simp [Oper.about, ho]
  · rw [Oper.semAt_plain F _ _ (by rw [ho]; intro c hc'; cases hc')]
    simp only [execOp, ho, Sem.run_bind, Sem.run_pure, Result.andThen_ok, hl, hc, hr]
    rw [Int.toNat_natCast, Int.toNat_natCast]
    refine hK _ _ (h _ _ rfl (.inr ⟨w.heap.size, m, madeCells z.cells (m * i.size), by rw [List.length_replicate], heap_alloc_new w _, by rw [List.length_replicate]; exact hnm, by simp only [maxLen]; omega, by simp only [madeCells, Array.size_map, Array.size_range, hs]; omega, ?_⟩) (New.alloc _ _) (World.size_alloc _ _))
    rw [hs, List.length_replicate, Nat.mul_one, made1 z hzc, List.take_replicate, Nat.min_eq_left hnm]

theorem Own.same {X Y : World} {e : TypeId} {v : Value} {xs : List Value} (h : Own X e v xs) (hs : ∀ g, v.ownBlock = some g → Y.heap[g]? = X.heap[g]?) : Own Y e v xs := by
  rcases h with h | ⟨g, cap, cur, rfl, hg, r⟩
  · exact .inl h
  · exact .inr ⟨g, cap, cur, rfl, (hs g rfl).trans hg, r⟩
theorem Blk1.same {X Y : World} {g : Nat} {a : Value} {t : TypeId} (h : Blk1 X g a t) (hs : Y.heap[g]? = X.heap[g]?) : Blk1 Y g a t := hs.trans h

theorem tyMsg : OneTy Tryz.prog 53 3 (.int .i64 0) := tyInt

theorem msg_first (q k : Nat) (hq : 0 < q) : msg q k 0 = List.replicate k 0 := by
  refine (tab_congr (fun i hi => ?_)).trans (tab_zero k)
  unfold dg
  rw [Nat.zero_div, Nat.zero_mod]; rfl

theorem dg_top {q k t j : Nat} (hq : 0 < q) (ht : t + 1 = q ^ k) (hj : j < k) : dg q t j = q - 1 := by
  obtain ⟨d, rfl⟩ : ∃ d, k = j + 1 + d := ⟨k - j - 1, by omega⟩
  have hp : 0 < q ^ j := Nat.pow_pos hq
  have hd : 0 < q ^ d := Nat.pow_pos hq
  have h1 : q ^ (j + 1 + d) = q ^ j * (q * q ^ d) := by rw [Nat.pow_add, Nat.pow_succ, Nat.mul_assoc]
  have h2 : t / q ^ j = q * q ^ d - 1 := by
    have h3 : t = q ^ j * (q * q ^ d - 1) + (q ^ j - 1) := by
      rw [Nat.mul_sub]
      have : q ^ j ≤ q ^ j * (q * q ^ d) := Nat.le_mul_of_pos_right _ (Nat.mul_pos hq hd)
      omega
    rw [h3, Nat.mul_add_div hp, Nat.div_eq_of_lt (by omega), Nat.add_zero]
  unfold dg
  rw [h2]
  have h4 : q * q ^ d - 1 = q * (q ^ d - 1) + (q - 1) := by
    rw [Nat.mul_sub]
    have : q ≤ q * q ^ d := Nat.le_mul_of_pos_right _ hd
    omega
  rw [h4, Nat.mul_add_mod, Nat.mod_eq_of_lt (by omega)]
/-- The number at a place of a block. -/
def cnum (D : Nat) (w : World) (i : Nat) : Nat := match w.cell? ⟨D, i, none⟩ with | some (.int _ x) => x.toNat | _ => 0
/-- Which message lies there. -/
def wval (q D : Nat) (w : World) : Nat → Nat
  | 0 => 0
  | i + 1 => wval q D w i * q + cnum D w i
theorem wval_to {q k t D : Nat} {w : World} (hq : 0 < q) (ho : Own w 3 (.slice (some ⟨D, 0, none⟩) k k) ((msg q k t).map (Value.int .i64))) (ht : t < q ^ k) : ∀ i, i ≤ k → wval q D w i = t / q ^ (k - i)
  | 0, _ => by rw [wval, Nat.sub_zero, Nat.div_eq_of_lt ht]
  | i + 1, hi => by
    have hl : i < (msg q k t).length := by rw [msg_length]; omega
    have hc := (ho.cell (i := i) (by rw [List.length_map]; exact hl)).1
    rw [gv_map_int hl, msg_get (by omega)] at hc
    have hn : cnum D w i = dg q t (k - 1 - i) := by
      unfold cnum
      rw [hc]
      simp
    rw [wval, wval_to hq ho ht i (by omega), hn]
    unfold dg
    have e1 : k - i = (k - (i + 1)) + 1 := by omega
    have e2 : k - 1 - i = k - (i + 1) := by omega
    rw [e1, e2, Nat.pow_succ, ← Nat.div_div_eq_div_mul, Nat.mul_comm]
    exact Nat.div_add_mod _ _
theorem wval_eq {q k t D : Nat} {w : World} (hq : 0 < q) (ho : Own w 3 (.slice (some ⟨D, 0, none⟩) k k) ((msg q k t).map (Value.int .i64))) (ht : t < q ^ k) : wval q D w k = t := by
  rw [wval_to hq ho ht k (Nat.le_refl _), Nat.sub_self, Nat.pow_zero, Nat.div_one]

set_option maxRecDepth 100000 in
set_option maxHeartbeats 4000000 in
theorem msgs_seq (q k gm gp n : Nat) (w0 : World) (hq : 2 ≤ q ∧ q ≤ 7) (hk : 1 ≤ k ∧ k ≤ 7) (hbm : Blk1 w0 gm (.int .i64 k) 3) (hbp : Blk1 w0 gp (.int .i64 q) 64) (hn : 2 ≤ n) :
    SeqM Fence.wide n Tryz.prog 183 #[.pointer (some ⟨gm, 0, none⟩), .pointer (some ⟨gp, 0, none⟩)] (fun D b => b = D ∨ b = gm ∨ b = gp) (fun D => .slice (some ⟨D, 0, none⟩) k k)
      (fun D t X => Own X 3 (.slice (some ⟨D, 0, none⟩) k k) ((msg q k t).map (Value.int .i64))) (q ^ k) w0 := by
  intro l J W hW hJ hY h0
  have HBM := Lib.hid (hbm.new hW)
  have HBP := Lib.hid (hbp.new hW)
  have hgm := HBM.out.lt
  have hgp := HBP.out.lt
  obtain ⟨cm, fm⟩ := HBM.out.cells
  have HJ := Lib.hid hJ
  have HY := Lib.hid hY
  have H0 := Lib.hid h0
  have HN := Lib.hid hn
  clear hbm hbp hJ hY h0 hW hn
  refine callsIn_of_wp Tryz.func183 rfl trivial ?_ rfl
  simp only [Tryz.ntmps183, List.size_toArray, List.length_cons, List.length_nil, Nat.reduceAdd, Nat.reduceSub, Array.replicate_succ, Array.replicate_zero, List.push_toArray, List.append_toArray, List.nil_append, List.cons_append]
  gi_wp2_with (gi_at_make; refine wpListIn_mk rfl _ _ _ rfl tyInt _ _ _ _ k k rfl rfl rfl rfl (Nat.le_refl _) (by omega) ?_; intro v1 w1 hv1 ho1 hn1 hs1; subst hv1; have H1 := Lib.hid (And.intro ho1 (And.intro hn1 hs1)); clear ho1 hn1 hs1)
  have hq0 : 0 < q := by omega
  have hqk : 0 < q ^ k := Nat.pow_pos hq0
  have h1 : J 0 w1 := HJ.out _ _ _ H0.out (H1.out.2.1.mono (fun _ _ x => x.elim))
  have hb1 := HBM.out.new H1.out.2.1
  have hb2 := HBP.out.new H1.out.2.1
  have HS := Lib.hid (And.intro h1 (And.intro hb1 hb2))
  clear h1 hb1 hb2 H0 HBM HBP cm fm
  gi_loopw [5] (fun t5 wr => ∃ t : Nat, t < q ^ k ∧ Hid (J t wr ∧ Own wr 3 (.slice (some ⟨W.heap.size, 0, none⟩) k k) ((msg q k t).map (Value.int .i64)) ∧ Blk1 wr gm (.int .i64 k) 3 ∧ Blk1 wr gp (.int .i64 q) 64)) (fun t5 wr => q ^ k - wval q W.heap.size wr k)
  case atStart => exact ⟨0, hqk, HS.out.1, by rw [msg_first q k hq0, List.map_replicate]; exact H1.out.1, HS.out.2.1, HS.out.2.2⟩
  case round =>
    obtain ⟨t, ht, HD⟩ := hrel
    obtain ⟨wz, hwz⟩ : ∃ wz : World, wz = wr := ⟨_, rfl⟩
    rw [← hwz] at HD
    rw [← hwz]
    clear hwz
    obtain ⟨fn, tmps, assign, body, hy, hR⟩ := HY.out t wz ht HD.out.1 HD.out.2.1
    gi_wp2
    refine ⟨fun _ => by have := HN.out; omega, hR.mono ?_⟩
    rintro e W3 ⟨rfl, hJ3, hsz3, hkeep⟩
    have hb1 := HD.out.2.2.1.same (hkeep gm (.inr (.inl rfl)))
    have hb2 := HD.out.2.2.2.same (hkeep gp (.inr (.inr rfl)))
    have ho3 := HD.out.2.1.same (fun g hg => hkeep g (.inl (by simp [Value.ownBlock] at hg; exact hg.symm)))
    have HT := Lib.hid (And.intro hJ3 (And.intro ho3 (And.intro hb1 hb2)))
    obtain ⟨cm, fm⟩ := hb1.cells
    clear hJ3 ho3 hb1 hb2 hkeep hy hR
    gi_wp2
    gi_loopw [5] (fun t5 wr => ∃ (j : Nat) (a : Int), t5 = .int .i64 a ∧ a = (k : Int) - 1 - j ∧ j ≤ k ∧ Hid ((t + 1) % q ^ j = 0) ∧ Hid (J (t + 1) wr ∧ Own wr 3 (.slice (some ⟨W.heap.size, 0, none⟩) k k) ((msgMid q k t j).map (Value.int .i64)) ∧ Blk1 wr gm (.int .i64 k) 3 ∧ Blk1 wr gp (.int .i64 q) 64)) (fun t5 _ => (intOf t5 + 1).toNat)
    case atStart => exact ⟨0, _, rfl, by omega, Nat.zero_le _, by show _ % _ = _; rw [Nat.pow_zero, Nat.mod_one], HT.out.1, by rw [msgMid_zero]; exact HT.out.2.1, HT.out.2.2⟩
    case round =>
      obtain ⟨j, a, rfl, ha, hj, HC, HE⟩ := hrel
      obtain ⟨wy, hwy⟩ : ∃ wy : World, wy = wr := ⟨_, rfl⟩
      rw [← hwy] at HE
      rw [← hwy]
      clear hwy
      by_cases hjk : j < k
      · obtain ⟨i, hi⟩ : ∃ i : Nat, i = k - 1 - j := ⟨_, rfl⟩
        obtain rfl : a = (i : Int) := by omega
        have hik : i < k := by omega
        obtain ⟨cl, fl⟩ := HE.out.2.1.cell (i := i) (by rw [List.length_map]; unfold msgMid; rw [tab_length]; exact hik)
        rw [gv_map_int (by unfold msgMid; rw [tab_length]; exact hik), hi, msgMid_get hjk, ← hi] at cl
        obtain ⟨cp, fp⟩ := HE.out.2.2.2.cells
        have hdq := dg_lt (t := t) (e := j) hq0
        obtain ⟨d, hd⟩ : ∃ d, d = dg q t j := ⟨_, rfl⟩
        rw [← hd] at cl hdq
        have HI := Lib.hid hi
        have HDg := Lib.hid hd
        have hij : (i : Int) = (k : Int) - 1 - j := by omega
        have HIJ := Lib.hid hij
        clear hi hd ha hij
        by_cases hdd : d = q - 1
        · have hdb : ((d : Int) == (q : Int) - 1) = true := by simp; omega
          have hge : decide ((i : Int) ≥ 0) = true := by simp
          gi_wp2
          gi_quiet (fail)
          obtain ⟨wx, hwx⟩ : ∃ wx : World, wx = wy.drewN nq := ⟨_, rfl⟩
          have hx : New wy wx := by rw [hwx]; exact New.drewN _ _
          rw [← hwx]
          clear hwx
          have cl' := hx.cellNew cl
          have fl' := ((HE.out.2.1.new hx).cell (i := i) (by rw [List.length_map]; unfold msgMid; rw [tab_length]; exact hik)).2
          have HX := Lib.hid hx
          clear hx
          gi_wp2
          go_roundw
          case rel =>
            have hst := (HE.out.2.1.new HX.out).set i (.int .i64 0)
            rw [set_map_int, HI.out, msgMid_next hjk, ← HI.out] at hst
            have hch : Chg (· = W.heap.size) wy (wx.setCell ⟨W.heap.size, i, none⟩ (.int .i64 0)) := Chg.trans HX.out (Chg.setCell _ _ _) (fun _ _ x => x.elim) (fun _ _ x => x)
            exact ⟨j + 1, _, rfl, by have := HIJ.out; omega, by omega, carry_on hq0 HC.out (by rw [← HDg.out]; exact hdd), HJ.out _ _ _ HE.out.1 hch, hst, HE.out.2.2.1.chg hch (by omega), HE.out.2.2.2.chg hch (by omega)⟩
          case measure => first | (simp [intOf]; done) | (simp [intOf]; omega)
        · have hdb : ((d : Int) == (q : Int) - 1) = false := by simp; omega
          have hge : decide ((i : Int) ≥ 0) = true := by simp
          gi_wp2
          gi_quiet (fail)
          obtain ⟨wx, hwx⟩ : ∃ wx : World, wx = wy.drewN nq := ⟨_, rfl⟩
          have hx : New wy wx := by rw [hwx]; exact New.drewN _ _
          rw [← hwx]
          clear hwx
          have cl' := hx.cellNew cl
          have fl' := ((HE.out.2.1.new hx).cell (i := i) (by rw [List.length_map]; unfold msgMid; rw [tab_length]; exact hik)).2
          have HX := Lib.hid hx
          have hd6 : d ≤ 6 := by omega
          clear hx
          gi_wp2
          have hst := (HE.out.2.1.new HX.out).set i (.int .i64 ((d : Int) + 1))
          rw [set_map_int, HI.out, HDg.out, msgMid_done hq0 hjk HC.out (by rw [← HDg.out]; exact hdd), ← HI.out, ← HDg.out] at hst
          have hch : Chg (· = W.heap.size) wy (wx.setCell ⟨W.heap.size, i, none⟩ (.int .i64 ((d : Int) + 1))) := Chg.trans HX.out (Chg.setCell _ _ _) (fun _ _ x => x.elim) (fun _ _ x => x)
          have ht1 : t + 1 < q ^ k := by
            apply Classical.byContradiction
            intro hc
            have h9 : dg q t j = q - 1 := dg_top hq0 (by omega) hjk
            exact hdd (HDg.out.trans h9)
          go_roundw
          case rel => exact ⟨t + 1, ht1, HJ.out _ _ _ HE.out.1 hch, hst, HE.out.2.2.1.chg hch (by omega), HE.out.2.2.2.chg hch (by omega)⟩
          case measure =>
            have e1 := wval_eq hq0 hst ht1
            have e2 := wval_eq hq0 HD.out.2.1 ht
            rw [e1, e2]
            omega
      · obtain rfl : j = k := by omega
        have hge : decide (a ≥ 0) = false := by simp; omega
        have halt : a < 0 := by omega
        clear ha
        have ht1 := msg_last hq0 ht HC.out
        have HT1 := Lib.hid ht1
        clear ht1
        gi_wp2
        gi_quiet (fail)
        gi_wp2
        refine bodyPost_ret (results_none rfl _ _ _) rfl ?_
        exact ⟨⟨_, rfl⟩, by rw [← HT1.out]; exact HJ.out _ _ _ HE.out.1 (Chg.trans (New.drewN _ _) (Chg.refl (· = W.heap.size) _) (fun _ _ x => x.elim) (fun _ _ x => x))⟩
end Go.Proofs.YtcdbeepphdfipaaGreatDoor

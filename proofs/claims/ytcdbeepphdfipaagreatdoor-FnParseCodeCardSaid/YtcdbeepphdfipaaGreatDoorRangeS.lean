/- A range over an iterator that hands another value in each round. -/
import Derived.Test.YtcdbeepphdfipaaGreatDoorRang
namespace Go.Proofs.YtcdbeepphdfipaaGreatDoor
open Go.RowKit
set_option linter.unusedVariables false

/-- The iterator's word: J between two rounds, R what lies at the block that is handed. -/
def SeqS (F : Fence) (n : Nat) (P : Program) (g : Nat) (lb : Array Value) (K : Nat → Nat → Prop) (val : Nat → Value) (R : Nat → Nat → World → Prop) (T bx : Nat) (w0 : World) : Prop :=
  ∀ (l : Nat) (J : Nat → World → Prop) (W : World), New w0 W → (∀ t X Y, J t X → Chg (· = bx) X Y → J t Y) →
    (∀ t X, t < T → J t X → R W.heap.size t X → YieldAt F (n - 1) P l #[val t] X fun e Y => e = .returned (.bool true) ∧ J (t + 1) Y ∧ X.heap.size ≤ Y.heap.size ∧ ∀ b, K W.heap.size b → Y.heap[b]? = X.heap[b]?) →
    J 0 W →
    CallsIn F n P g (#[.func (.yield l) #[] #[]] ++ lb) W fun e Y => (∃ v, e = .returned v) ∧ J T Y


variable {F : Fence} {n : Nat} {P : Program}

theorem wpIn_rangeS {g : Operand} {ps : Array Tmp} {assign body : Code} {Q : Exit → Act → World → Prop} {a : Act} {w : World}
    (hro : F.round = none) (h1 : 1 ≤ n) {gf : Nat} {lb : Array Value} (hg : a.eval g = .func (.func gf) #[] lb) (hFg : F.fn gf) (eg : ∀ args w, (callFunc gf args).run P w = .ok (.enter gf args) w)
    {K : Nat → Nat → Prop} {val : Nat → Value} {R : Nat → Nat → World → Prop} {T bx : Nat} {w0 : World} (hseq : SeqS F (n - 1) P gf lb K val R T bx w0) (hbx : bx < w.heap.size)
    (hb0 : New w0 w) (hps : ps.size = 1) (hK : ∀ b, K (w.heap.size + 2) b → b ≠ w.heap.size + 1) (hR : ∀ t X Y, R (w.heap.size + 2) t X → Y.heap[w.heap.size + 2]? = X.heap[w.heap.size + 2]? → R (w.heap.size + 2) t Y)
    (I : Nat → World → Prop) (hI : ∀ t X Y, I t X → Chg (fun k => (w.heap.size ≤ k ∧ k ≤ w.heap.size + 1) ∨ k = bx) X Y → I t Y) (h0 : I 0 w) (a₁ : Nat → Act)
    (hassign : ∀ (l t : Nat) (W : World) (C : Act → World → Prop), C (a₁ t) W →
      assign.wpIn (F.inRound l) (n - 1 - 1) P (Exit.then C (fun _ _ _ => False)) { tmps := (ps.zip #[val t]).foldl (fun t (p, v) => t.setIfInBounds p v) a.tmps, defers := [] } W)
    (hbody : ∀ (l t : Nat) (W : World), t < T → I t W → w.heap.size + 2 ≤ W.heap.size → R (w.heap.size + 2) t W → body.wpIn (F.inRound l) (n - 1 - 1) P (postM w.heap.size (K (w.heap.size + 2)) (I (t + 1)) W) (a₁ t) W)
    (hdone : ∀ (W : World), I T W → W.heap[w.heap.size]? = some (.deferred (some [])) → Q .normal { a with defers := { target := .collected w.heap.size, args := #[] } :: a.defers } W) :
    (Code.rangeFunc g ps assign body).wpIn F n P Q a w := by
  refine wpIn_rangeFunc ?_
  intro fn hfn
  rw [hro]
  obtain ⟨rec, hrec⟩ : ∃ rec : LoopState → Option Code → Loop, rec = fun st pe => { state := st, pending := pe, fn, tmps := a.tmps, params := ps, assign, body, defers := w.heap.size } := ⟨_, rfl⟩
  obtain ⟨W1, hW1⟩ : ∃ W1, (w.alloc (.deferred (some []))).alloc (.loop (rec .ready none)) = W1 := ⟨_, rfl⟩
  have hL1 : W1.heap[w.heap.size + 1]? = some (.loop (rec .ready none)) := by
    rw [← hW1]; have := World.alloc_heap_new (w.alloc (.deferred (some []))) (.loop (rec .ready none)); rwa [World.size_alloc] at this
  have hK1 : W1.heap[w.heap.size]? = some (.deferred (some [])) := by
    rw [← hW1]; exact (Below.heap_alloc _ _ _ (by simp)).trans (World.alloc_heap_new w _)
  have hN1 : New w W1 := by rw [← hW1]; exact (New.alloc _ _).trans (New.alloc _ _)
  have hs1 : W1.heap.size = w.heap.size + 2 := by rw [← hW1]; simp
  have hI1 : I 0 W1 := hI _ _ _ h0 (hN1.mono (fun _ _ x => x.elim))
  refine ⟨w.heap.size + 1, [{ target := .collected w.heap.size, args := #[] }], W1, { target := .fn (.func gf) lb, args := #[.func (.yield (w.heap.size + 1)) #[] #[]] }, W1, gf,
    #[.func (.yield (w.heap.size + 1)) #[] #[]] ++ lb, W1, ?_, ?_, ?_, ?_, fun _ => h1, ?_⟩
  · rw [← hW1, hrec]; exact run_enterLoop_outer _ _ _ _ _
  · simp only [resolve, hg]
    simp [go_sem]
  · intro f' hf'; simp [Target.leads] at hf'; subst hf'; exact hFg
  · simp [invoke, go_sem, eg]
  · refine (hseq (w.heap.size + 1)
      (fun t X => I t X ∧ (X.heap[w.heap.size + 1]? = some (.loop (rec .ready none)) ∧ X.heap[w.heap.size]? = some (.deferred (some []))) ∧ w.heap.size + 2 ≤ X.heap.size)
      W1 (hb0.trans hN1)
      (fun t X Y hs hc => ⟨hI _ _ _ hs.1 (hc.mono (fun i _ e => .inr e)), ⟨hc.heapAt hs.2.1.1 (by omega), hc.heapAt hs.2.1.2 (by omega)⟩, Nat.le_trans hs.2.2 hc.size⟩)
      ?_ ⟨hI1, ⟨hL1, hK1⟩, by omega⟩).mono ?_
    · -- one round
      rw [hs1]
      rintro t W ht ⟨hi, ⟨hl, hk⟩, hsz⟩ hr
      have hlt : w.heap.size + 1 < W.heap.size := (Array.getElem?_eq_some_iff.1 hl).1
      have hy := run_yield (P := P) (args := #[val t]) hl (by rw [hrec]; simp [hps])
      rw [hrec] at hy
      refine ⟨fn, _, assign, body, hy, roundIn_of_wpIn hfn (hassign _ t W _ ⟨_, run_beginRound hl (by rw [hrec]), ?_⟩)⟩
      have hl2 : (W.putObj (w.heap.size + 1) (.loop { rec .ready none with state := .busy })).heap[w.heap.size + 1]? = some (.loop { rec .ready none with state := .busy }) := World.putObj_heap_same hlt
      have hk2 : (W.putObj (w.heap.size + 1) (.loop { rec .ready none with state := .busy })).heap[w.heap.size]? = some (.deferred (some [])) := (World.putObj_heap_other (by omega)).trans hk
      refine wpIn_mono (hbody _ t _ ht (hI _ _ _ hi ((chg_putObj W (w.heap.size + 1) _).mono (fun i _ e => by omega))) (by simpa using hsz) (hR _ _ _ hr (World.putObj_heap_other (by omega)))) ?_
      rintro e a3 W3 hp
      cases e with
      | normal =>
        obtain ⟨hi3, hsz3, hkeep⟩ := hp
        have hl3 := (hkeep (w.heap.size + 1) (.inr (.inl rfl))).trans hl2
        have hk3 := (hkeep w.heap.size (.inl rfl)).trans hk2
        have hend := run_endRound (P := P) none hl3
        rw [hrec] at hend
        refine ⟨_, _, hend, rfl, ⟨hI _ _ _ hi3 ((chg_putObj W3 (w.heap.size + 1) _).mono (fun i _ e => by omega)), ⟨?_, (World.putObj_heap_other (by omega)).trans hk3⟩, ?_⟩, ?_, fun b hb => ?_⟩
        · rw [hrec]; exact World.putObj_heap_same (Array.getElem?_eq_some_iff.1 hl3).1
        · simp at hsz3 ⊢; omega
        · simp at hsz3 ⊢; omega
        · have hne := hK b hb
          exact (World.putObj_heap_other hne).trans ((hkeep b (.inr (.inr hb))).trans (World.putObj_heap_other hne))
      | ret => exact hp.elim
      | exit id => exact hp.elim
      | goto t => exact hp.elim
      | panic ch => exact hp.elim
      | outgrown => exact hp.elim
    · rintro e W2 ⟨⟨v, rfl⟩, hi, ⟨hl, hk⟩, hsz⟩
      exact ⟨none, _, by have := run_endLoop (P := P) hl (by rw [hrec]; simp); rw [hrec] at this; exact this, hdone _ (hI _ _ _ hi ((chg_putObj W2 (w.heap.size + 1) _).mono (fun i _ e => by omega))) ((World.putObj_heap_other (by omega)).trans hk)⟩
end Go.Proofs.YtcdbeepphdfipaaGreatDoor
